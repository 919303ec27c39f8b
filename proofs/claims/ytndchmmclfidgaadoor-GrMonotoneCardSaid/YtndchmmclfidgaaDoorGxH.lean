import Derived.Test.YtndchmmclfidgaaDoorGxG
set_option maxRecDepth 100000
set_option linter.unusedSimpArgs false
set_option linter.unusedVariables false
set_option linter.unnecessarySimpa false
namespace Go.Sx
open Go Go.Lg Go.Proofs
theorem b138 {gl : GL} : Body (C gl).P 138 Tryd.f138 (codeOf Tryd.f138) := ⟨Tryd.func138, by kernel_rfl, by kernel_rfl⟩
theorem b76 {gl : GL} : Body (C gl).P 76 Tryd.f76 (codeOf Tryd.f76) := ⟨Tryd.func76, by kernel_rfl, by kernel_rfl⟩

def RX (c : Ct) (a b : Nat) (z : BitVec 64) (j : Fm) (y : BitVec 64) (f : Fm) : BitVec 64 := itB (rXs c a b z j y f) 66 (allB (2 ^ (a + b)))
def rYs (c : Ct) (a b : Nat) (z : BitVec 64) (j : Fm) (y : BitVec 64) : BitVec 64 := orB ((orTrue c.je).map (RX c a b z j y))
def RY (c : Ct) (a b : Nat) (z : BitVec 64) (j : Fm) : BitVec 64 := itB (rYs c a b z j) 66 0#64
def rZs (c : Ct) (a b : Nat) (z : BitVec 64) : BitVec 64 := (orTrue c.js).foldl (fun out j => out &&& RY c a b z j) z
def RW (c : Ct) (a b : Nat) : BitVec 64 := itB (rZs c a b) 66 (allB (2 ^ (a + b)))
/-- The reference's fixed points are come to in time. -/
structure StabR (c : Ct) (a b : Nat) : Prop where
  x : ∀ z j y f, fixR (rXs c a b z j y f) (fun _ (u : Unit) => u) 67 (allB (2 ^ (a + b))) () = some (RX c a b z j y f, ())
  y : ∀ z j, fixR (rYs c a b z j) (fun _ (u : Unit) => u) 67 0#64 () = some (RY c a b z j, ())
  z : fixR (rZs c a b) (fun _ (u : Unit) => u) 67 (allB (2 ^ (a + b))) () = some (RW c a b, ())

theorem low_itB {n : Nat} {f : BitVec 64 → BitVec 64} (hf : ∀ x, Low n x → Low n (f x)) : ∀ (k : Nat) (x : BitVec 64), Low n x → Low n (itB f k x)
  | 0, x, h => h
  | k + 1, x, h => low_itB hf k (f x) (hf x h)
theorem low_zero (n : Nat) : Low n 0#64 := fun i _ => by simp
theorem low_or {n : Nat} {x y : BitVec 64} (hx : Low n x) (hy : Low n y) : Low n (x ||| y) := fun i hi => by simp [hx i hi, hy i hi]
theorem low_and {n : Nat} {x y : BitVec 64} (hx : Low n x) : Low n (x &&& y) := fun i hi => by simp [hx i hi]
theorem low_foldl_or {n : Nat} : ∀ (l : List (BitVec 64)) (x : BitVec 64), Low n x → (∀ y ∈ l, Low n y) → Low n (l.foldl (· ||| ·) x)
  | [], x, h, _ => h
  | y :: l, x, h, hl => low_foldl_or l (x ||| y) (low_or h (hl y (List.mem_cons_self ..))) fun w hw => hl w (List.mem_cons_of_mem _ hw)
theorem low_RX (c : Ct) (a b : Nat) (h : 2 ^ (a + b) ≤ 64) (z : BitVec 64) (j : Fm) (y : BitVec 64) (f : Fm) : Low (2 ^ (a + b)) (RX c a b z j y f) :=
  low_itB (fun x _ => low_setB _ _) _ _ (low_allB h)
theorem low_rYs (c : Ct) (a b : Nat) (h : 2 ^ (a + b) ≤ 64) (z : BitVec 64) (j : Fm) (y : BitVec 64) : Low (2 ^ (a + b)) (rYs c a b z j y) :=
  low_foldl_or _ _ (low_zero _) fun w hw => by
    obtain ⟨f, _, rfl⟩ := List.mem_map.1 hw
    exact low_RX c a b h z j y f
theorem low_foldl_and {A : Type} {n : Nat} (g : A → BitVec 64) : ∀ (l : List A) (x : BitVec 64), Low n x → Low n (l.foldl (fun out j => out &&& g j) x)
  | [], x, h => h
  | y :: l, x, h => low_foldl_and g l _ (low_and h)

/-- Bits, of which the first k are new. -/
def mixZ (n k : Nat) (w u : BitVec 64) : List AV := (List.range n).map fun l => AV.bool (if l < k then w.getLsbD l else u.getLsbD l)
def bitsA (n : Nat) (w : BitVec 64) : List AV := (List.range n).map fun l => AV.bool (w.getLsbD l)
theorem bitsA_eq (n : Nat) (w : BitVec 64) : bitsA n w = (List.range n).map fun l => AV.bool (w.getLsbD l) := rfl
theorem mix_len (n k : Nat) (w u : BitVec 64) : (mixZ n k w u).length = n := by simp [mixZ]
theorem bits_len (n : Nat) (w : BitVec 64) : (bitsA n w).length = n := by simp [bitsA]
theorem mix_0 (n : Nat) (w u : BitVec 64) : mixZ n 0 w u = bitsA n u := rfl
theorem mix_n (n : Nat) (w u : BitVec 64) : mixZ n n w u = bitsA n w := List.map_congr_left fun l hl => by simp [List.mem_range.1 hl]
theorem mix_get {n k : Nat} (h : k < n) (w u : BitVec 64) : (mixZ n k w u).getD k .undef = .bool (u.getLsbD k) := by
  unfold mixZ; rw [range_getD _ h]; simp
theorem bits_get {n k : Nat} (h : k < n) (u : BitVec 64) : (bitsA n u).getD k .undef = .bool (u.getLsbD k) := range_getD _ h
theorem mix_set {n k : Nat} (h : k < n) (w u : BitVec 64) : (mixZ n k w u).set k (.bool (w.getLsbD k)) = mixZ n (k + 1) w u := by
  apply List.ext_getElem
  · simp [mixZ]
  · intro i h1 h2
    simp only [mixZ, List.length_map, List.length_range] at h2
    simp only [mixZ, List.getElem_set, List.getElem_map, List.getElem_range]
    by_cases e : k = i
    · subst e; simp
    · rw [if_neg e]
      by_cases e2 : i < k
      · rw [if_pos e2, if_pos (by omega)]
      · rw [if_neg e2, if_neg (by omega)]
theorem bits_repl (n : Nat) : List.replicate n (AV.bool false) = bitsA n 0#64 := by
  apply List.ext_getElem
  · simp [bitsA]
  · intro i h1 h2
    simp [bitsA]
theorem belE_mix {m n k : Nat} {w u : BitVec 64} : BelE m (mixZ n k w u) = True := belE_bits _ _
theorem belE_bitsA {m n : Nat} {u : BitVec 64} : BelE m (bitsA n u) = True := belE_bits _ _
theorem clE_bitsA {n : Nat} {u : BitVec 64} : ClE (bitsA n u) = True := clE_bits _ _
theorem okes_mix {n k : Nat} {w u : BitVec 64} : OKEs 1 (mixZ n k w u) = True := okes_bits _ _
theorem okes_bitsA {n : Nat} {u : BitVec 64} : OKEs 1 (bitsA n u) = True := okes_bits _ _
attribute [go_sem] mix_len bits_len mix_0 belE_mix belE_bitsA clE_bitsA okes_mix okes_bitsA
theorem encZ_bits (n : Nat) (w : BitVec 64) : encZ n w = .list false (bitsA n w) := rfl
theorem orB_nil : orB [] = 0#64 := rfl
theorem orB_takeA {A : Type} (l : List A) (f : A → BitVec 64) (i : Nat) (h : i < l.length) : orB ((l.take (i + 1)).map f) = orB ((l.take i).map f) ||| f l[i] := by
  rw [takeM h]; simp [orB]
theorem or_len (l : List Fm) (h : l.length < 1000001) : (orTrue l).length < 1000001 := by
  unfold orTrue
  split
  · simp
  · omega
theorem or_wf (l : List Fm) (h : ∀ f ∈ l, WfT f) : ∀ f ∈ orTrue l, WfT f := by
  intro f hf
  unfold orTrue at hf
  split at hf
  · simp only [List.mem_singleton] at hf; subst hf; simp [WfT, WfTL]
  · exact h f hf

section
variable {gl : GL}
theorem smallest_ok (c : Ct) (a b n : Nat) (z : BitVec 64) (j : Fm) (hc : CtV c a b) (hj : WfT j) (hn : n = 2 ^ (a + b)) (hs : StabR c a b) :
    PCall (C gl) 138 [encC c, encZ n z, encF j] (encZ n (RY c a b z j)) := by
  refine pcallX (callX_of b138 (by simp [Tryd.ntmps138]) ?_) (by simp only [AllCl, cl_encC, cl_encF, cl_encZ, and_true]) (by simp only [cl_encZ])
  have p3 := pow2_le (a := a + b) 6 (by have := hc.a3; have := hc.b3; omega)
  have hr := hs.y z j
  have hL := fun (y : BitVec 64) (f : Fm) (hf : WfT f) => largest_ok (gl := gl) c a b n z y j f (RX c a b z j y f) hc hj hf hn (by rw [hn]; exact hs.x z j y f)
  have hlo := fun (y : BitVec 64) => low_rYs c a b p3 z j y
  rw [← hn] at p3 hlo
  have hjel := hc.jel
  have hol := or_len c.je (by omega)
  have how := or_wf c.je hc.tje
  refine W.of ?_
  rw [Tryd.ntmps138]
  simp only [toK, codeOf, Tryd.f138, go_sem, seval, reduceCtorEq]
  try simp only [go_sem, seval, reduceCtorEq, encZ_bits, encF_eq]
  repeat (first | refine WK.blockSeq ?_ | refine WK.blockCond ?_ | refine WK.blockReg ?_ | (refine WK.condT ?_ ?_; (focus (simp only [go_sem, seval, reduceCtorEq, encZ_bits, encF_eq]; done))) | (refine WK.condF ?_ ?_; (focus (simp only [go_sem, seval, reduceCtorEq, encZ_bits, encF_eq]; done))) | refine WK.seq ?_ | (refine WK.reg ?_; simp only [go_sem, seval, reduceCtorEq, encZ_bits, encF_eq]) | (refine WK.skip ?_; simp only [go_sem, seval, reduceCtorEq, encZ_bits, encF_eq]) | (refine WK.ret ?_; simp only [go_sem, seval, reduceCtorEq, encZ_bits, encF_eq]) | (refine WK.exit ?_; simp only [go_sem, seval, reduceCtorEq, encZ_bits, encF_eq]) | ((with_reducible refine And.intro ?_ ?_); omega) | omega)
  rw [bits_repl]
  refine WK.freeze 2 (by simp only [go_sem, seval, reduceCtorEq]; rfl) ?_
  have hb : BSto ((((Sto.none.add (.box (ctCells c))).add (.box [.int .i64 j.op, .int .i64 j.var, .list false (encFs j.args)])).add (.row 1 (bitsA n 0#64) false)).frz 2 (bitsA n 0#64)) := BSto.frz (((BSto.none.add (by simp only [go_sem, seval, reduceCtorEq])).add (by simp only [go_sem, seval, reduceCtorEq])).add (by simp only [go_sem, seval, reduceCtorEq])) (by simp only [go_sem, seval, reduceCtorEq])
  have hg0 : ((((Sto.none.add (.box (ctCells c))).add (.box [.int .i64 j.op, .int .i64 j.var, .list false (encFs j.args)])).add (.row 1 (bitsA n 0#64) false)).frz 2 (bitsA n 0#64)).get 0 = some (.box (ctCells c)) := by rfl
  have hg1 : ((((Sto.none.add (.box (ctCells c))).add (.box [.int .i64 j.op, .int .i64 j.var, .list false (encFs j.args)])).add (.row 1 (bitsA n 0#64) false)).frz 2 (bitsA n 0#64)).get 1 = some (.box [.int .i64 j.op, .int .i64 j.var, .list false (encFs j.args)]) := by rfl
  have hnx : ((((Sto.none.add (.box (ctCells c))).add (.box [.int .i64 j.op, .int .i64 j.var, .list false (encFs j.args)])).add (.row 1 (bitsA n 0#64) false)).frz 2 (bitsA n 0#64)).next = 3 := by rfl
  generalize (((Sto.none.add (.box (ctCells c))).add (.box [.int .i64 j.op, .int .i64 j.var, .list false (encFs j.args)])).add (.row 1 (bitsA n 0#64) false)).frz 2 (bitsA n 0#64) = σ0 at *
  refine WK.lessT 7 (v := encZ n 0#64) (by simp only [go_sem, seval, reduceCtorEq, bits_len]; rw [List.take_of_length_le (by simp [bits_len])]; exact .refl _) ?_
  refine WK.block ?_
  refine WK.loopX [1, 3, 5] [7] (fun s : Nat × BitVec 64 => [encZ n s.2]) (fun s => σ0) (fun s => fixR (rYs c a b z j) (fun _ (u : Unit) => u) s.1 s.2 () = some (RY c a b z j, ()) ∧ Low n s.2) (fun s => s.1) (67, 0#64) (by decide) ⟨hr, low_zero n⟩ (by simp only [go_sem, seval, reduceCtorEq, encZ_bits]) (by rfl) ?_
  rintro ⟨m, y⟩ ⟨hI, hlow⟩
  simp only [go_sem, seval, reduceCtorEq]
  simp only at hI hlow
  cases m with
  | zero => simp [fixR] at hI
  | succ m =>
  simp only [fixR] at hI
  refine WK.block ?_
  try simp only [go_sem, seval, reduceCtorEq, encZ_bits, hg0, hg1, hnx]
  repeat (first | refine WK.blockSeq ?_ | refine WK.blockCond ?_ | refine WK.blockReg ?_ | (refine WK.condT ?_ ?_; (focus (simp only [go_sem, seval, reduceCtorEq, encZ_bits, hg0, hg1, hnx]; done))) | (refine WK.condF ?_ ?_; (focus (simp only [go_sem, seval, reduceCtorEq, encZ_bits, hg0, hg1, hnx]; done))) | refine WK.seq ?_ | (refine WK.reg ?_; simp only [go_sem, seval, reduceCtorEq, encZ_bits, hg0, hg1, hnx]) | (refine WK.skip ?_; simp only [go_sem, seval, reduceCtorEq, encZ_bits, hg0, hg1, hnx]) | (refine WK.ret ?_; simp only [go_sem, seval, reduceCtorEq, encZ_bits, hg0, hg1, hnx]) | (refine WK.exit ?_; simp only [go_sem, seval, reduceCtorEq, encZ_bits, hg0, hg1, hnx]) | ((with_reducible refine And.intro ?_ ?_); omega) | omega)
  refine callK_pureL (some_ok (gl := gl) c.je) rfl (by simp only [go_sem, seval, reduceCtorEq, encZ_bits, hg0, hg1, hnx]) (by simp only [go_sem, seval, reduceCtorEq, encZ_bits, hg0, hg1, hnx]) ?_
  simp only [go_sem, seval, reduceCtorEq, encZ_bits, hg0, hg1, hnx]
  try simp only [go_sem, seval, reduceCtorEq, encZ_bits, hg0, hg1, hnx, encFs_len]
  repeat (first | refine WK.blockSeq ?_ | refine WK.blockCond ?_ | refine WK.blockReg ?_ | (refine WK.condT ?_ ?_; (focus (simp only [go_sem, seval, reduceCtorEq, encZ_bits, hg0, hg1, hnx, encFs_len]; done))) | (refine WK.condF ?_ ?_; (focus (simp only [go_sem, seval, reduceCtorEq, encZ_bits, hg0, hg1, hnx, encFs_len]; done))) | refine WK.seq ?_ | (refine WK.reg ?_; simp only [go_sem, seval, reduceCtorEq, encZ_bits, hg0, hg1, hnx, encFs_len]) | (refine WK.skip ?_; simp only [go_sem, seval, reduceCtorEq, encZ_bits, hg0, hg1, hnx, encFs_len]) | (refine WK.ret ?_; simp only [go_sem, seval, reduceCtorEq, encZ_bits, hg0, hg1, hnx, encFs_len]) | (refine WK.exit ?_; simp only [go_sem, seval, reduceCtorEq, encZ_bits, hg0, hg1, hnx, encFs_len]) | ((with_reducible refine And.intro ?_ ?_); omega) | omega)
  rw [bits_repl, ← orB_nil]
  refine WK.rangeX ((orTrue c.je).length) [1, 3, 5, 7, 8, 21] [] (fun i => []) (fun i => σ0.add (.row 1 (bitsA n (orB (((orTrue c.je).take i).map (RX c a b z j y)))) false)) (by omega) (by decide) (by simp only [go_sem, seval, reduceCtorEq, encZ_bits, hg0, hg1, hnx, encFs_len, List.take_zero, List.map_nil]) (by simp only [go_sem, seval, reduceCtorEq, encZ_bits, hg0, hg1, hnx, encFs_len, List.take_zero, List.map_nil]) (by simp only [go_sem, seval, reduceCtorEq, encZ_bits, hg0, hg1, hnx, encFs_len, List.take_zero, List.map_nil, List.take_zero]) (by first | rfl | (simp only [go_sem, seval, reduceCtorEq, encZ_bits, hg0, hg1, hnx, encFs_len, List.take_zero, List.map_nil]; done) | (refine Sto.ext' (by simp only [go_sem, seval, reduceCtorEq, encZ_bits, hg0, hg1, hnx, encFs_len, List.take_zero, List.map_nil]) (fun i => ?_); simp only [go_sem, seval, reduceCtorEq, encZ_bits, hg0, hg1, hnx, encFs_len, List.take_zero, List.map_nil]; repeat' split; all_goals (first | rfl | omega | simp_all))) ?_ ?_
  · intro i hi
    have hw := how _ (List.getElem_mem hi)
    have hl := hL y _ hw
    have ht := orB_takeA (orTrue c.je) (RX c a b z j y) i hi
    obtain ⟨u, hu⟩ : ∃ u, orB (((orTrue c.je).take i).map (RX c a b z j y)) = u := ⟨_, rfl⟩
    obtain ⟨v, hv⟩ : ∃ v, RX c a b z j y (orTrue c.je)[i] = v := ⟨_, rfl⟩
    rw [hu, hv] at ht
    rw [hv] at hl
    simp only [go_sem, seval, reduceCtorEq, encZ_bits, hg0, hg1, hnx]
    rw [hu]
    try simp only [go_sem, seval, reduceCtorEq, encZ_bits, hg0, hg1, hnx, encFs_len, encFs_get, hi, encF_eq]
    repeat (first | refine WK.blockSeq ?_ | refine WK.blockCond ?_ | refine WK.blockReg ?_ | (refine WK.condT ?_ ?_; (focus (simp only [go_sem, seval, reduceCtorEq, encZ_bits, hg0, hg1, hnx, encFs_len, encFs_get, hi, encF_eq]; done))) | (refine WK.condF ?_ ?_; (focus (simp only [go_sem, seval, reduceCtorEq, encZ_bits, hg0, hg1, hnx, encFs_len, encFs_get, hi, encF_eq]; done))) | refine WK.seq ?_ | (refine WK.reg ?_; simp only [go_sem, seval, reduceCtorEq, encZ_bits, hg0, hg1, hnx, encFs_len, encFs_get, hi, encF_eq]) | (refine WK.skip ?_; simp only [go_sem, seval, reduceCtorEq, encZ_bits, hg0, hg1, hnx, encFs_len, encFs_get, hi, encF_eq]) | (refine WK.ret ?_; simp only [go_sem, seval, reduceCtorEq, encZ_bits, hg0, hg1, hnx, encFs_len, encFs_get, hi, encF_eq]) | (refine WK.exit ?_; simp only [go_sem, seval, reduceCtorEq, encZ_bits, hg0, hg1, hnx, encFs_len, encFs_get, hi, encF_eq]) | ((with_reducible refine And.intro ?_ ?_); omega) | omega)
    refine callK_pureL (hl) rfl (by simp only [go_sem, seval, reduceCtorEq, encZ_bits, hg0, hg1, hnx, encF_eq]) (by simp only [go_sem, seval, reduceCtorEq, encZ_bits, hg0, hg1, hnx, encF_eq]) ?_
    simp only [go_sem, seval, reduceCtorEq, encZ_bits, hg0, hg1, hnx, encF_eq]
    try simp only [go_sem, seval, reduceCtorEq, encZ_bits, hg0, hg1, hnx]
    repeat (first | refine WK.blockSeq ?_ | refine WK.blockCond ?_ | refine WK.blockReg ?_ | (refine WK.condT ?_ ?_; (focus (simp only [go_sem, seval, reduceCtorEq, encZ_bits, hg0, hg1, hnx]; done))) | (refine WK.condF ?_ ?_; (focus (simp only [go_sem, seval, reduceCtorEq, encZ_bits, hg0, hg1, hnx]; done))) | refine WK.seq ?_ | (refine WK.reg ?_; simp only [go_sem, seval, reduceCtorEq, encZ_bits, hg0, hg1, hnx]) | (refine WK.skip ?_; simp only [go_sem, seval, reduceCtorEq, encZ_bits, hg0, hg1, hnx]) | (refine WK.ret ?_; simp only [go_sem, seval, reduceCtorEq, encZ_bits, hg0, hg1, hnx]) | (refine WK.exit ?_; simp only [go_sem, seval, reduceCtorEq, encZ_bits, hg0, hg1, hnx]) | ((with_reducible refine And.intro ?_ ?_); omega) | omega)
    rw [← mix_0 n (u ||| v) u]
    refine WK.rangeX (n) [1, 3, 5, 7, 8, 21, 22, 23, 32] [] (fun k => []) (fun k => (σ0.add (.row 1 (mixZ n k (u ||| v) u) false)).add (.box [.int .i64 (orTrue c.je)[i].op, .int .i64 (orTrue c.je)[i].var, .list false (encFs (orTrue c.je)[i].args)])) (by omega) (by decide) (by simp only [go_sem, seval, reduceCtorEq, encZ_bits, hg0, hg1, hnx]) (by simp only [go_sem, seval, reduceCtorEq, encZ_bits, hg0, hg1, hnx]) (by simp only [go_sem, seval, reduceCtorEq, encZ_bits, hg0, hg1, hnx, List.take_zero]) (by first | rfl | (simp only [go_sem, seval, reduceCtorEq, encZ_bits, hg0, hg1, hnx]; done) | (refine Sto.ext' (by simp only [go_sem, seval, reduceCtorEq, encZ_bits, hg0, hg1, hnx]) (fun i => ?_); simp only [go_sem, seval, reduceCtorEq, encZ_bits, hg0, hg1, hnx]; repeat' split; all_goals (first | rfl | omega | simp_all))) ?_ ?_
    · intro k hk
      have e1 := bits_get hk v
      have e2 := mix_get hk (u ||| v) u
      have e3 := mix_set hk (u ||| v) u
      have e4 : (u ||| v).getLsbD k = (u.getLsbD k || v.getLsbD k) := by simp
      rw [e4] at e3
      generalize u.getLsbD k = p at *
      cases p with
      | true =>
        rw [Bool.true_or] at e3
        simp only [go_sem, seval, reduceCtorEq, encZ_bits, hg0, hg1, hnx, e1, e2]
        try simp only [go_sem, seval, reduceCtorEq, encZ_bits, hg0, hg1, hnx, e1, e2]
        repeat (first | refine WK.blockSeq ?_ | refine WK.blockCond ?_ | refine WK.blockReg ?_ | (refine WK.condT ?_ ?_; (focus (simp only [go_sem, seval, reduceCtorEq, encZ_bits, hg0, hg1, hnx, e1, e2]; done))) | (refine WK.condF ?_ ?_; (focus (simp only [go_sem, seval, reduceCtorEq, encZ_bits, hg0, hg1, hnx, e1, e2]; done))) | refine WK.seq ?_ | (refine WK.reg ?_; simp only [go_sem, seval, reduceCtorEq, encZ_bits, hg0, hg1, hnx, e1, e2]) | (refine WK.skip ?_; simp only [go_sem, seval, reduceCtorEq, encZ_bits, hg0, hg1, hnx, e1, e2]) | (refine WK.ret ?_; simp only [go_sem, seval, reduceCtorEq, encZ_bits, hg0, hg1, hnx, e1, e2]) | (refine WK.exit ?_; simp only [go_sem, seval, reduceCtorEq, encZ_bits, hg0, hg1, hnx, e1, e2]) | ((with_reducible refine And.intro ?_ ?_); omega) | omega)
        rw [e3]
        refine Cut.by' (by first | exact Nat.le_refl _ | (simp only [Sto.get_add, Sto.get_set, Sto.get_del, Sto.get_none, Sto.next_add, Sto.next_set, Sto.next_del, Sto.next_none]; omega)) (by first | exact Nat.le_refl _ | (simp only [Sto.get_add, Sto.get_set, Sto.get_del, Sto.get_none, Sto.next_add, Sto.next_set, Sto.next_del, Sto.next_none]; omega)) (fun i hi => ?_) (fun i o hi ho => ?_)
        · (try simp only [Sto.get_add, Sto.get_set, Sto.get_del, Sto.get_none, Sto.next_add, Sto.next_set, Sto.next_del, Sto.next_none] at hi ⊢); ((repeat' split) <;> first | exact .inl rfl | exact .inr rfl | omega | (simp_all; done))
        · (try simp only [Sto.get_add, Sto.get_set, Sto.get_del, Sto.get_none, Sto.next_add, Sto.next_set, Sto.next_del, Sto.next_none] at hi ho ⊢); ((repeat' split at ho) <;> (repeat' split) <;> first | (exact ⟨ho, .inl ho⟩) | (cases ho; done) | omega | (cases ho; refine ⟨rfl, .inl rfl⟩) | (cases ho; refine ⟨rfl, .inr ?_⟩; simp only [go_sem, seval, reduceCtorEq, encZ_bits, hg0, hg1, hnx, e1, e2]; first | done | omega | (refine ⟨?_, ?_⟩ <;> omega)) | (simp_all; done))
      | false =>
        rw [Bool.false_or] at e3
        simp only [go_sem, seval, reduceCtorEq, encZ_bits, hg0, hg1, hnx, e1, e2]
        try simp only [go_sem, seval, reduceCtorEq, encZ_bits, hg0, hg1, hnx, e1, e2]
        repeat (first | refine WK.blockSeq ?_ | refine WK.blockCond ?_ | refine WK.blockReg ?_ | (refine WK.condT ?_ ?_; (focus (simp only [go_sem, seval, reduceCtorEq, encZ_bits, hg0, hg1, hnx, e1, e2]; done))) | (refine WK.condF ?_ ?_; (focus (simp only [go_sem, seval, reduceCtorEq, encZ_bits, hg0, hg1, hnx, e1, e2]; done))) | refine WK.seq ?_ | (refine WK.reg ?_; simp only [go_sem, seval, reduceCtorEq, encZ_bits, hg0, hg1, hnx, e1, e2]) | (refine WK.skip ?_; simp only [go_sem, seval, reduceCtorEq, encZ_bits, hg0, hg1, hnx, e1, e2]) | (refine WK.ret ?_; simp only [go_sem, seval, reduceCtorEq, encZ_bits, hg0, hg1, hnx, e1, e2]) | (refine WK.exit ?_; simp only [go_sem, seval, reduceCtorEq, encZ_bits, hg0, hg1, hnx, e1, e2]) | ((with_reducible refine And.intro ?_ ?_); omega) | omega)
        rw [e3]
        refine Cut.by' (by first | exact Nat.le_refl _ | (simp only [Sto.get_add, Sto.get_set, Sto.get_del, Sto.get_none, Sto.next_add, Sto.next_set, Sto.next_del, Sto.next_none]; omega)) (by first | exact Nat.le_refl _ | (simp only [Sto.get_add, Sto.get_set, Sto.get_del, Sto.get_none, Sto.next_add, Sto.next_set, Sto.next_del, Sto.next_none]; omega)) (fun i hi => ?_) (fun i o hi ho => ?_)
        · (try simp only [Sto.get_add, Sto.get_set, Sto.get_del, Sto.get_none, Sto.next_add, Sto.next_set, Sto.next_del, Sto.next_none] at hi ⊢); ((repeat' split) <;> first | exact .inl rfl | exact .inr rfl | omega | (simp_all; done))
        · (try simp only [Sto.get_add, Sto.get_set, Sto.get_del, Sto.get_none, Sto.next_add, Sto.next_set, Sto.next_del, Sto.next_none] at hi ho ⊢); ((repeat' split at ho) <;> (repeat' split) <;> first | (exact ⟨ho, .inl ho⟩) | (cases ho; done) | omega | (cases ho; refine ⟨rfl, .inl rfl⟩) | (cases ho; refine ⟨rfl, .inr ?_⟩; simp only [go_sem, seval, reduceCtorEq, encZ_bits, hg0, hg1, hnx, e1, e2]; first | done | omega | (refine ⟨?_, ?_⟩ <;> omega)) | (simp_all; done))
    · simp only [go_sem, seval, reduceCtorEq, encZ_bits, hg0, hg1, hnx]
      rw [mix_n]
      try simp only [go_sem, seval, reduceCtorEq, encZ_bits, hg0, hg1, hnx]
      repeat (first | refine WK.blockSeq ?_ | refine WK.blockCond ?_ | refine WK.blockReg ?_ | (refine WK.condT ?_ ?_; (focus (simp only [go_sem, seval, reduceCtorEq, encZ_bits, hg0, hg1, hnx]; done))) | (refine WK.condF ?_ ?_; (focus (simp only [go_sem, seval, reduceCtorEq, encZ_bits, hg0, hg1, hnx]; done))) | refine WK.seq ?_ | (refine WK.reg ?_; simp only [go_sem, seval, reduceCtorEq, encZ_bits, hg0, hg1, hnx]) | (refine WK.skip ?_; simp only [go_sem, seval, reduceCtorEq, encZ_bits, hg0, hg1, hnx]) | (refine WK.ret ?_; simp only [go_sem, seval, reduceCtorEq, encZ_bits, hg0, hg1, hnx]) | (refine WK.exit ?_; simp only [go_sem, seval, reduceCtorEq, encZ_bits, hg0, hg1, hnx]) | ((with_reducible refine And.intro ?_ ?_); omega) | omega)
      rw [ht]
      refine Cut.by' (by first | exact Nat.le_refl _ | (simp only [Sto.get_add, Sto.get_set, Sto.get_del, Sto.get_none, Sto.next_add, Sto.next_set, Sto.next_del, Sto.next_none]; omega)) (by first | exact Nat.le_refl _ | (simp only [Sto.get_add, Sto.get_set, Sto.get_del, Sto.get_none, Sto.next_add, Sto.next_set, Sto.next_del, Sto.next_none]; omega)) (fun i hi => ?_) (fun i o hi ho => ?_)
      · (try simp only [Sto.get_add, Sto.get_set, Sto.get_del, Sto.get_none, Sto.next_add, Sto.next_set, Sto.next_del, Sto.next_none] at hi ⊢); ((repeat' split) <;> first | exact .inl rfl | exact .inr rfl | omega | (simp_all; done))
      · (try simp only [Sto.get_add, Sto.get_set, Sto.get_del, Sto.get_none, Sto.next_add, Sto.next_set, Sto.next_del, Sto.next_none] at hi ho ⊢); ((repeat' split at ho) <;> (repeat' split) <;> first | (exact ⟨ho, .inl ho⟩) | (cases ho; done) | omega | (cases ho; refine ⟨rfl, .inl rfl⟩) | (cases ho; refine ⟨rfl, .inr ?_⟩; simp only [go_sem, seval, reduceCtorEq, encZ_bits, hg0, hg1, hnx]; first | done | omega | (refine ⟨?_, ?_⟩ <;> omega)) | (simp_all; done))
  · simp only [go_sem, seval, reduceCtorEq, encZ_bits, hg0, hg1, hnx]
    rw [List.take_length]
    have hyy : rYs c a b z j y = orB ((orTrue c.je).map (RX c a b z j y)) := rfl
    rw [← hyy]
    have hlow' := hlo y
    generalize rYs c a b z j y = y' at *
    have hs := same_ok (gl := gl) n y y' p3 hlow hlow'
    have hf : Cut σ0 ((σ0.add (.row 1 (bitsA n y') false)).frz 3 (bitsA n y')) σ0 := by
      have := cut_frz hb (.row 1 (bitsA n y') false) (bitsA n y')
      rw [hnx] at this
      exact this
    refine WK.freeze 3 (by simp only [go_sem, seval, reduceCtorEq, hnx]; rfl) ?_
    refine WK.lessT 8 (v := encZ n y') (by simp only [go_sem, seval, reduceCtorEq, bits_len]; rw [List.take_of_length_le (by simp [bits_len])]; exact .refl _) ?_
    try simp only [go_sem, seval, reduceCtorEq, encZ_bits, hg0, hg1, hnx]
    repeat (first | refine WK.blockSeq ?_ | refine WK.blockCond ?_ | refine WK.blockReg ?_ | (refine WK.condT ?_ ?_; (focus (simp only [go_sem, seval, reduceCtorEq, encZ_bits, hg0, hg1, hnx]; done))) | (refine WK.condF ?_ ?_; (focus (simp only [go_sem, seval, reduceCtorEq, encZ_bits, hg0, hg1, hnx]; done))) | refine WK.seq ?_ | (refine WK.reg ?_; simp only [go_sem, seval, reduceCtorEq, encZ_bits, hg0, hg1, hnx]) | (refine WK.skip ?_; simp only [go_sem, seval, reduceCtorEq, encZ_bits, hg0, hg1, hnx]) | (refine WK.ret ?_; simp only [go_sem, seval, reduceCtorEq, encZ_bits, hg0, hg1, hnx]) | (refine WK.exit ?_; simp only [go_sem, seval, reduceCtorEq, encZ_bits, hg0, hg1, hnx]) | ((with_reducible refine And.intro ?_ ?_); omega) | omega)
    refine callK_pureL (hs) rfl (by simp only [go_sem, seval, reduceCtorEq, encZ_bits, hg0, hg1, hnx]) (by simp only [go_sem, seval, reduceCtorEq, encZ_bits, hg0, hg1, hnx]) ?_
    simp only [go_sem, seval, reduceCtorEq, encZ_bits, hg0, hg1, hnx]
    try simp only [go_sem, seval, reduceCtorEq, encZ_bits, hg0, hg1, hnx]
    repeat (first | refine WK.blockSeq ?_ | refine WK.blockCond ?_ | refine WK.blockReg ?_ | (refine WK.condT ?_ ?_; (focus (simp only [go_sem, seval, reduceCtorEq, encZ_bits, hg0, hg1, hnx]; done))) | (refine WK.condF ?_ ?_; (focus (simp only [go_sem, seval, reduceCtorEq, encZ_bits, hg0, hg1, hnx]; done))) | refine WK.seq ?_ | (refine WK.reg ?_; simp only [go_sem, seval, reduceCtorEq, encZ_bits, hg0, hg1, hnx]) | (refine WK.skip ?_; simp only [go_sem, seval, reduceCtorEq, encZ_bits, hg0, hg1, hnx]) | (refine WK.ret ?_; simp only [go_sem, seval, reduceCtorEq, encZ_bits, hg0, hg1, hnx]) | (refine WK.exit ?_; simp only [go_sem, seval, reduceCtorEq, encZ_bits, hg0, hg1, hnx]) | ((with_reducible refine And.intro ?_ ?_); omega) | omega)
    refine WK.cond _ (by simp only [go_sem, seval, reduceCtorEq, encZ_bits, hg0, hg1, hnx]; rfl) (fun h => ?_) (fun h => ?_)
    · have hx : y' = y := (beq_iff_eq.1 h).symm
      rw [if_pos hx] at hI
      simp only [Option.some.injEq, Prod.mk.injEq, and_true] at hI
      rw [← hI]
      try simp only [go_sem, seval, reduceCtorEq, encZ_bits, hg0, hg1, hnx]
      repeat (first | refine WK.blockSeq ?_ | refine WK.blockCond ?_ | refine WK.blockReg ?_ | (refine WK.condT ?_ ?_; (focus (simp only [go_sem, seval, reduceCtorEq, encZ_bits, hg0, hg1, hnx]; done))) | (refine WK.condF ?_ ?_; (focus (simp only [go_sem, seval, reduceCtorEq, encZ_bits, hg0, hg1, hnx]; done))) | refine WK.seq ?_ | (refine WK.reg ?_; simp only [go_sem, seval, reduceCtorEq, encZ_bits, hg0, hg1, hnx]) | (refine WK.skip ?_; simp only [go_sem, seval, reduceCtorEq, encZ_bits, hg0, hg1, hnx]) | (refine WK.ret ?_; simp only [go_sem, seval, reduceCtorEq, encZ_bits, hg0, hg1, hnx]) | (refine WK.exit ?_; simp only [go_sem, seval, reduceCtorEq, encZ_bits, hg0, hg1, hnx]) | ((with_reducible refine And.intro ?_ ?_); omega) | omega)
      exact cut_none _
    · have hx : ¬ y' = y := fun e => by simp [e] at h
      rw [if_neg hx] at hI
      try simp only [go_sem, seval, reduceCtorEq, encZ_bits, hg0, hg1, hnx]
      repeat (first | refine WK.blockSeq ?_ | refine WK.blockCond ?_ | refine WK.blockReg ?_ | (refine WK.condT ?_ ?_; (focus (simp only [go_sem, seval, reduceCtorEq, encZ_bits, hg0, hg1, hnx]; done))) | (refine WK.condF ?_ ?_; (focus (simp only [go_sem, seval, reduceCtorEq, encZ_bits, hg0, hg1, hnx]; done))) | refine WK.seq ?_ | (refine WK.reg ?_; simp only [go_sem, seval, reduceCtorEq, encZ_bits, hg0, hg1, hnx]) | (refine WK.skip ?_; simp only [go_sem, seval, reduceCtorEq, encZ_bits, hg0, hg1, hnx]) | (refine WK.ret ?_; simp only [go_sem, seval, reduceCtorEq, encZ_bits, hg0, hg1, hnx]) | (refine WK.exit ?_; simp only [go_sem, seval, reduceCtorEq, encZ_bits, hg0, hg1, hnx]) | ((with_reducible refine And.intro ?_ ?_); omega) | omega)
      exact ⟨(m, y'), ⟨hI, hlow'⟩, Nat.lt_succ_self m, by simp only [go_sem, seval, reduceCtorEq, encZ_bits], hf⟩
theorem foldl_takeA {A B : Type} (f : B → A → B) (b : B) (l : List A) (i : Nat) (h : i < l.length) : (l.take (i + 1)).foldl f b = f ((l.take i).foldl f b) l[i] := foldl_take f b l i h
theorem foldl_take0 {A B : Type} (f : B → A → B) (b : B) (l : List A) : (l.take 0).foldl f b = b := rfl
theorem winning_ok (c : Ct) (a b n : Nat) (hc : CtV c a b) (hn : n = 2 ^ (a + b)) (hs : StabR c a b) :
    PCall (C gl) 76 [encC c] (encZ n (RW c a b)) := by
  refine pcallX (callX_of b76 (by simp [Tryd.ntmps76]) ?_) (by simp only [AllCl, cl_encC, and_true]) (by simp only [cl_encZ])
  have p3 := pow2_le (a := a + b) 6 (by have := hc.a3; have := hc.b3; omega)
  have hin := hc.inn
  have hout := hc.out
  have q3 := shl_one (a + b) (by have := hc.a3; have := hc.b3; omega)
  have q4 := wrap_add_nat a b (by have := hc.a3; have := hc.b3; omega)
  have hr := hs.z
  have hL := fun (z : BitVec 64) (j : Fm) (hj : WfT j) => smallest_ok (gl := gl) c a b n z j hc hj hn hs
  rw [← hn] at p3 q3 hr
  have hjsl := hc.jsl
  have hol := or_len c.js (by omega)
  have how := or_wf c.js hc.tjs
  refine W.of ?_
  rw [Tryd.ntmps76]
  simp only [toK, codeOf, Tryd.f76, go_sem, seval, reduceCtorEq]
  try simp only [go_sem, seval, reduceCtorEq, encZ_bits, hin, hout, q3, q4]
  repeat (first | refine WK.blockSeq ?_ | refine WK.blockCond ?_ | refine WK.blockReg ?_ | (refine WK.condT ?_ ?_; (focus (simp only [go_sem, seval, reduceCtorEq, encZ_bits, hin, hout, q3, q4]; done))) | (refine WK.condF ?_ ?_; (focus (simp only [go_sem, seval, reduceCtorEq, encZ_bits, hin, hout, q3, q4]; done))) | refine WK.seq ?_ | (refine WK.reg ?_; simp only [go_sem, seval, reduceCtorEq, encZ_bits, hin, hout, q3, q4]) | (refine WK.skip ?_; simp only [go_sem, seval, reduceCtorEq, encZ_bits, hin, hout, q3, q4]) | (refine WK.ret ?_; simp only [go_sem, seval, reduceCtorEq, encZ_bits, hin, hout, q3, q4]) | (refine WK.exit ?_; simp only [go_sem, seval, reduceCtorEq, encZ_bits, hin, hout, q3, q4]) | ((with_reducible refine And.intro ?_ ?_); omega) | omega)
  refine callK_pureL (full_ok (gl := gl) n (by omega)) rfl (by simp only [go_sem, seval, reduceCtorEq, encZ_bits, hin, hout, q3, q4]) (by simp only [go_sem, seval, reduceCtorEq, encZ_bits, hin, hout, q3, q4]) ?_
  simp only [go_sem, seval, reduceCtorEq, encZ_bits, hin, hout, q3, q4]
  try simp only [go_sem, seval, reduceCtorEq, encZ_bits, hin, hout, q3, q4]
  repeat (first | refine WK.blockSeq ?_ | refine WK.blockCond ?_ | refine WK.blockReg ?_ | (refine WK.condT ?_ ?_; (focus (simp only [go_sem, seval, reduceCtorEq, encZ_bits, hin, hout, q3, q4]; done))) | (refine WK.condF ?_ ?_; (focus (simp only [go_sem, seval, reduceCtorEq, encZ_bits, hin, hout, q3, q4]; done))) | refine WK.seq ?_ | (refine WK.reg ?_; simp only [go_sem, seval, reduceCtorEq, encZ_bits, hin, hout, q3, q4]) | (refine WK.skip ?_; simp only [go_sem, seval, reduceCtorEq, encZ_bits, hin, hout, q3, q4]) | (refine WK.ret ?_; simp only [go_sem, seval, reduceCtorEq, encZ_bits, hin, hout, q3, q4]) | (refine WK.exit ?_; simp only [go_sem, seval, reduceCtorEq, encZ_bits, hin, hout, q3, q4]) | ((with_reducible refine And.intro ?_ ?_); omega) | omega)
  refine WK.block ?_
  refine WK.loopX [1] [3] (fun s : Nat × BitVec 64 => [encZ n s.2]) (fun s => Sto.none.add (.box (ctCells c))) (fun s => fixR (rZs c a b) (fun _ (u : Unit) => u) s.1 s.2 () = some (RW c a b, ()) ∧ Low n s.2) (fun s => s.1) (67, allB n) (by decide) ⟨hr, low_allB p3⟩ (by simp only [go_sem, seval, reduceCtorEq, encZ_bits]) (by rfl) ?_
  rintro ⟨m, z⟩ ⟨hI, hlow⟩
  simp only [go_sem, seval, reduceCtorEq]
  simp only at hI hlow
  cases m with
  | zero => simp [fixR] at hI
  | succ m =>
  simp only [fixR] at hI
  refine WK.block ?_
  try simp only [go_sem, seval, reduceCtorEq, encZ_bits, hin, hout, q3, q4]
  repeat (first | refine WK.blockSeq ?_ | refine WK.blockCond ?_ | refine WK.blockReg ?_ | (refine WK.condT ?_ ?_; (focus (simp only [go_sem, seval, reduceCtorEq, encZ_bits, hin, hout, q3, q4]; done))) | (refine WK.condF ?_ ?_; (focus (simp only [go_sem, seval, reduceCtorEq, encZ_bits, hin, hout, q3, q4]; done))) | refine WK.seq ?_ | (refine WK.reg ?_; simp only [go_sem, seval, reduceCtorEq, encZ_bits, hin, hout, q3, q4]) | (refine WK.skip ?_; simp only [go_sem, seval, reduceCtorEq, encZ_bits, hin, hout, q3, q4]) | (refine WK.ret ?_; simp only [go_sem, seval, reduceCtorEq, encZ_bits, hin, hout, q3, q4]) | (refine WK.exit ?_; simp only [go_sem, seval, reduceCtorEq, encZ_bits, hin, hout, q3, q4]) | ((with_reducible refine And.intro ?_ ?_); omega) | omega)
  have hpos : 0 < n := by rw [hn]; exact Nat.pos_of_ne_zero (by simp)
  refine appK_row (f := false) (xs := []) (ys := bitsA n z) (by simp only [go_sem, seval, reduceCtorEq] <;> rfl) (by simp only [go_sem, seval, reduceCtorEq] <;> rfl) (by simp only [go_sem, seval, reduceCtorEq]) (by simp only [go_sem, seval, reduceCtorEq]) (by simp only [go_sem, seval, reduceCtorEq] <;> rfl) (by simp only [go_sem, seval, reduceCtorEq]) (fun e => by have := congrArg List.length e; simp [bits_len] at this; omega) (by kernel_rfl) (by simp only [go_sem, seval, reduceCtorEq] <;> omega) (by simp only [go_sem, seval, reduceCtorEq] <;> omega) ?_
  try simp only [go_sem, seval, reduceCtorEq, encZ_bits, hin, hout, q3, q4, List.nil_append]
  repeat (first | refine WK.blockSeq ?_ | refine WK.blockCond ?_ | refine WK.blockReg ?_ | (refine WK.condT ?_ ?_; (focus (simp only [go_sem, seval, reduceCtorEq, encZ_bits, hin, hout, q3, q4, List.nil_append]; done))) | (refine WK.condF ?_ ?_; (focus (simp only [go_sem, seval, reduceCtorEq, encZ_bits, hin, hout, q3, q4, List.nil_append]; done))) | refine WK.seq ?_ | (refine WK.reg ?_; simp only [go_sem, seval, reduceCtorEq, encZ_bits, hin, hout, q3, q4, List.nil_append]) | (refine WK.skip ?_; simp only [go_sem, seval, reduceCtorEq, encZ_bits, hin, hout, q3, q4, List.nil_append]) | (refine WK.ret ?_; simp only [go_sem, seval, reduceCtorEq, encZ_bits, hin, hout, q3, q4, List.nil_append]) | (refine WK.exit ?_; simp only [go_sem, seval, reduceCtorEq, encZ_bits, hin, hout, q3, q4, List.nil_append]) | ((with_reducible refine And.intro ?_ ?_); omega) | omega)
  refine callK_pureL (some_ok (gl := gl) c.js) rfl (by simp only [go_sem, seval, reduceCtorEq, encZ_bits, hin, hout, q3, q4]) (by simp only [go_sem, seval, reduceCtorEq, encZ_bits, hin, hout, q3, q4]) ?_
  simp only [go_sem, seval, reduceCtorEq, encZ_bits, hin, hout, q3, q4]
  try simp only [go_sem, seval, reduceCtorEq, encZ_bits, hin, hout, q3, q4, encFs_len]
  repeat (first | refine WK.blockSeq ?_ | refine WK.blockCond ?_ | refine WK.blockReg ?_ | (refine WK.condT ?_ ?_; (focus (simp only [go_sem, seval, reduceCtorEq, encZ_bits, hin, hout, q3, q4, encFs_len]; done))) | (refine WK.condF ?_ ?_; (focus (simp only [go_sem, seval, reduceCtorEq, encZ_bits, hin, hout, q3, q4, encFs_len]; done))) | refine WK.seq ?_ | (refine WK.reg ?_; simp only [go_sem, seval, reduceCtorEq, encZ_bits, hin, hout, q3, q4, encFs_len]) | (refine WK.skip ?_; simp only [go_sem, seval, reduceCtorEq, encZ_bits, hin, hout, q3, q4, encFs_len]) | (refine WK.ret ?_; simp only [go_sem, seval, reduceCtorEq, encZ_bits, hin, hout, q3, q4, encFs_len]) | (refine WK.exit ?_; simp only [go_sem, seval, reduceCtorEq, encZ_bits, hin, hout, q3, q4, encFs_len]) | ((with_reducible refine And.intro ?_ ?_); omega) | omega)
  refine WK.rangeX ((orTrue c.js).length) [1, 3, 4, 21] [] (fun i => []) (fun i => (Sto.none.add (.box (ctCells c))).add (.row 1 (bitsA n (((orTrue c.js).take i).foldl (fun out j => out &&& RY c a b z j) z)) false)) (by omega) (by decide) (by simp only [go_sem, seval, reduceCtorEq, encZ_bits, hin, hout, q3, q4, encFs_len, foldl_take0]) (by simp only [go_sem, seval, reduceCtorEq, encZ_bits, hin, hout, q3, q4, encFs_len, foldl_take0]) (by simp only [go_sem, seval, reduceCtorEq, encZ_bits, hin, hout, q3, q4, encFs_len, foldl_take0, List.take_zero]) (by first | rfl | (simp only [go_sem, seval, reduceCtorEq, encZ_bits, hin, hout, q3, q4, encFs_len, foldl_take0]; done) | (refine Sto.ext' (by simp only [go_sem, seval, reduceCtorEq, encZ_bits, hin, hout, q3, q4, encFs_len, foldl_take0]) (fun i => ?_); simp only [go_sem, seval, reduceCtorEq, encZ_bits, hin, hout, q3, q4, encFs_len, foldl_take0]; repeat' split; all_goals (first | rfl | omega | simp_all))) ?_ ?_
  · intro i hi
    have hw := how _ (List.getElem_mem hi)
    have hl := hL z _ hw
    have ht := foldl_takeA (fun out j => out &&& RY c a b z j) z (orTrue c.js) i hi
    obtain ⟨u, hu⟩ : ∃ u, ((orTrue c.js).take i).foldl (fun out j => out &&& RY c a b z j) z = u := ⟨_, rfl⟩
    obtain ⟨v, hv⟩ : ∃ v, RY c a b z (orTrue c.js)[i] = v := ⟨_, rfl⟩
    rw [hu, hv] at ht
    rw [hv] at hl
    simp only [go_sem, seval, reduceCtorEq, encZ_bits, hin, hout, q3, q4]
    rw [hu]
    try simp only [go_sem, seval, reduceCtorEq, encZ_bits, hin, hout, q3, q4, encFs_len, encFs_get, hi, encF_eq]
    repeat (first | refine WK.blockSeq ?_ | refine WK.blockCond ?_ | refine WK.blockReg ?_ | (refine WK.condT ?_ ?_; (focus (simp only [go_sem, seval, reduceCtorEq, encZ_bits, hin, hout, q3, q4, encFs_len, encFs_get, hi, encF_eq]; done))) | (refine WK.condF ?_ ?_; (focus (simp only [go_sem, seval, reduceCtorEq, encZ_bits, hin, hout, q3, q4, encFs_len, encFs_get, hi, encF_eq]; done))) | refine WK.seq ?_ | (refine WK.reg ?_; simp only [go_sem, seval, reduceCtorEq, encZ_bits, hin, hout, q3, q4, encFs_len, encFs_get, hi, encF_eq]) | (refine WK.skip ?_; simp only [go_sem, seval, reduceCtorEq, encZ_bits, hin, hout, q3, q4, encFs_len, encFs_get, hi, encF_eq]) | (refine WK.ret ?_; simp only [go_sem, seval, reduceCtorEq, encZ_bits, hin, hout, q3, q4, encFs_len, encFs_get, hi, encF_eq]) | (refine WK.exit ?_; simp only [go_sem, seval, reduceCtorEq, encZ_bits, hin, hout, q3, q4, encFs_len, encFs_get, hi, encF_eq]) | ((with_reducible refine And.intro ?_ ?_); omega) | omega)
    refine callK_pureL (hl) rfl (by simp only [go_sem, seval, reduceCtorEq, encZ_bits, hin, hout, q3, q4, encF_eq]) (by simp only [go_sem, seval, reduceCtorEq, encZ_bits, hin, hout, q3, q4, encF_eq]) ?_
    simp only [go_sem, seval, reduceCtorEq, encZ_bits, hin, hout, q3, q4, encF_eq]
    try simp only [go_sem, seval, reduceCtorEq, encZ_bits, hin, hout, q3, q4]
    repeat (first | refine WK.blockSeq ?_ | refine WK.blockCond ?_ | refine WK.blockReg ?_ | (refine WK.condT ?_ ?_; (focus (simp only [go_sem, seval, reduceCtorEq, encZ_bits, hin, hout, q3, q4]; done))) | (refine WK.condF ?_ ?_; (focus (simp only [go_sem, seval, reduceCtorEq, encZ_bits, hin, hout, q3, q4]; done))) | refine WK.seq ?_ | (refine WK.reg ?_; simp only [go_sem, seval, reduceCtorEq, encZ_bits, hin, hout, q3, q4]) | (refine WK.skip ?_; simp only [go_sem, seval, reduceCtorEq, encZ_bits, hin, hout, q3, q4]) | (refine WK.ret ?_; simp only [go_sem, seval, reduceCtorEq, encZ_bits, hin, hout, q3, q4]) | (refine WK.exit ?_; simp only [go_sem, seval, reduceCtorEq, encZ_bits, hin, hout, q3, q4]) | ((with_reducible refine And.intro ?_ ?_); omega) | omega)
    rw [← mix_0 n (u &&& v) u]
    refine WK.rangeX (n) [1, 3, 4, 21, 22, 23, 30] [] (fun k => []) (fun k => ((Sto.none.add (.box (ctCells c))).add (.row 1 (mixZ n k (u &&& v) u) false)).add (.box [.int .i64 (orTrue c.js)[i].op, .int .i64 (orTrue c.js)[i].var, .list false (encFs (orTrue c.js)[i].args)])) (by omega) (by decide) (by simp only [go_sem, seval, reduceCtorEq, encZ_bits, hin, hout, q3, q4]) (by simp only [go_sem, seval, reduceCtorEq, encZ_bits, hin, hout, q3, q4]) (by simp only [go_sem, seval, reduceCtorEq, encZ_bits, hin, hout, q3, q4, List.take_zero]) (by first | rfl | (simp only [go_sem, seval, reduceCtorEq, encZ_bits, hin, hout, q3, q4]; done) | (refine Sto.ext' (by simp only [go_sem, seval, reduceCtorEq, encZ_bits, hin, hout, q3, q4]) (fun i => ?_); simp only [go_sem, seval, reduceCtorEq, encZ_bits, hin, hout, q3, q4]; repeat' split; all_goals (first | rfl | omega | simp_all))) ?_ ?_
    · intro k hk
      have e1 := bits_get hk v
      have e2 := mix_get hk (u &&& v) u
      have e3 := mix_set hk (u &&& v) u
      have e4 : (u &&& v).getLsbD k = (u.getLsbD k && v.getLsbD k) := by simp
      rw [e4] at e3
      generalize u.getLsbD k = p at *
      cases p with
      | true =>
        rw [Bool.true_and] at e3
        simp only [go_sem, seval, reduceCtorEq, encZ_bits, hin, hout, q3, q4, e1, e2]
        try simp only [go_sem, seval, reduceCtorEq, encZ_bits, hin, hout, q3, q4, e1, e2]
        repeat (first | refine WK.blockSeq ?_ | refine WK.blockCond ?_ | refine WK.blockReg ?_ | (refine WK.condT ?_ ?_; (focus (simp only [go_sem, seval, reduceCtorEq, encZ_bits, hin, hout, q3, q4, e1, e2]; done))) | (refine WK.condF ?_ ?_; (focus (simp only [go_sem, seval, reduceCtorEq, encZ_bits, hin, hout, q3, q4, e1, e2]; done))) | refine WK.seq ?_ | (refine WK.reg ?_; simp only [go_sem, seval, reduceCtorEq, encZ_bits, hin, hout, q3, q4, e1, e2]) | (refine WK.skip ?_; simp only [go_sem, seval, reduceCtorEq, encZ_bits, hin, hout, q3, q4, e1, e2]) | (refine WK.ret ?_; simp only [go_sem, seval, reduceCtorEq, encZ_bits, hin, hout, q3, q4, e1, e2]) | (refine WK.exit ?_; simp only [go_sem, seval, reduceCtorEq, encZ_bits, hin, hout, q3, q4, e1, e2]) | ((with_reducible refine And.intro ?_ ?_); omega) | omega)
        rw [e3]
        refine Cut.by' (by first | exact Nat.le_refl _ | (simp only [Sto.get_add, Sto.get_set, Sto.get_del, Sto.get_none, Sto.next_add, Sto.next_set, Sto.next_del, Sto.next_none]; omega)) (by first | exact Nat.le_refl _ | (simp only [Sto.get_add, Sto.get_set, Sto.get_del, Sto.get_none, Sto.next_add, Sto.next_set, Sto.next_del, Sto.next_none]; omega)) (fun i hi => ?_) (fun i o hi ho => ?_)
        · (try simp only [Sto.get_add, Sto.get_set, Sto.get_del, Sto.get_none, Sto.next_add, Sto.next_set, Sto.next_del, Sto.next_none] at hi ⊢); ((repeat' split) <;> first | exact .inl rfl | exact .inr rfl | omega | (simp_all; done))
        · (try simp only [Sto.get_add, Sto.get_set, Sto.get_del, Sto.get_none, Sto.next_add, Sto.next_set, Sto.next_del, Sto.next_none] at hi ho ⊢); ((repeat' split at ho) <;> (repeat' split) <;> first | (exact ⟨ho, .inl ho⟩) | (cases ho; done) | omega | (cases ho; refine ⟨rfl, .inl rfl⟩) | (cases ho; refine ⟨rfl, .inr ?_⟩; simp only [go_sem, seval, reduceCtorEq, encZ_bits, hin, hout, q3, q4, e1, e2]; first | done | omega | (refine ⟨?_, ?_⟩ <;> omega)) | (simp_all; done))
      | false =>
        rw [Bool.false_and] at e3
        simp only [go_sem, seval, reduceCtorEq, encZ_bits, hin, hout, q3, q4, e1, e2]
        try simp only [go_sem, seval, reduceCtorEq, encZ_bits, hin, hout, q3, q4, e1, e2]
        repeat (first | refine WK.blockSeq ?_ | refine WK.blockCond ?_ | refine WK.blockReg ?_ | (refine WK.condT ?_ ?_; (focus (simp only [go_sem, seval, reduceCtorEq, encZ_bits, hin, hout, q3, q4, e1, e2]; done))) | (refine WK.condF ?_ ?_; (focus (simp only [go_sem, seval, reduceCtorEq, encZ_bits, hin, hout, q3, q4, e1, e2]; done))) | refine WK.seq ?_ | (refine WK.reg ?_; simp only [go_sem, seval, reduceCtorEq, encZ_bits, hin, hout, q3, q4, e1, e2]) | (refine WK.skip ?_; simp only [go_sem, seval, reduceCtorEq, encZ_bits, hin, hout, q3, q4, e1, e2]) | (refine WK.ret ?_; simp only [go_sem, seval, reduceCtorEq, encZ_bits, hin, hout, q3, q4, e1, e2]) | (refine WK.exit ?_; simp only [go_sem, seval, reduceCtorEq, encZ_bits, hin, hout, q3, q4, e1, e2]) | ((with_reducible refine And.intro ?_ ?_); omega) | omega)
        rw [e3]
        refine Cut.by' (by first | exact Nat.le_refl _ | (simp only [Sto.get_add, Sto.get_set, Sto.get_del, Sto.get_none, Sto.next_add, Sto.next_set, Sto.next_del, Sto.next_none]; omega)) (by first | exact Nat.le_refl _ | (simp only [Sto.get_add, Sto.get_set, Sto.get_del, Sto.get_none, Sto.next_add, Sto.next_set, Sto.next_del, Sto.next_none]; omega)) (fun i hi => ?_) (fun i o hi ho => ?_)
        · (try simp only [Sto.get_add, Sto.get_set, Sto.get_del, Sto.get_none, Sto.next_add, Sto.next_set, Sto.next_del, Sto.next_none] at hi ⊢); ((repeat' split) <;> first | exact .inl rfl | exact .inr rfl | omega | (simp_all; done))
        · (try simp only [Sto.get_add, Sto.get_set, Sto.get_del, Sto.get_none, Sto.next_add, Sto.next_set, Sto.next_del, Sto.next_none] at hi ho ⊢); ((repeat' split at ho) <;> (repeat' split) <;> first | (exact ⟨ho, .inl ho⟩) | (cases ho; done) | omega | (cases ho; refine ⟨rfl, .inl rfl⟩) | (cases ho; refine ⟨rfl, .inr ?_⟩; simp only [go_sem, seval, reduceCtorEq, encZ_bits, hin, hout, q3, q4, e1, e2]; first | done | omega | (refine ⟨?_, ?_⟩ <;> omega)) | (simp_all; done))
    · simp only [go_sem, seval, reduceCtorEq, encZ_bits, hin, hout, q3, q4]
      rw [mix_n]
      try simp only [go_sem, seval, reduceCtorEq, encZ_bits, hin, hout, q3, q4]
      repeat (first | refine WK.blockSeq ?_ | refine WK.blockCond ?_ | refine WK.blockReg ?_ | (refine WK.condT ?_ ?_; (focus (simp only [go_sem, seval, reduceCtorEq, encZ_bits, hin, hout, q3, q4]; done))) | (refine WK.condF ?_ ?_; (focus (simp only [go_sem, seval, reduceCtorEq, encZ_bits, hin, hout, q3, q4]; done))) | refine WK.seq ?_ | (refine WK.reg ?_; simp only [go_sem, seval, reduceCtorEq, encZ_bits, hin, hout, q3, q4]) | (refine WK.skip ?_; simp only [go_sem, seval, reduceCtorEq, encZ_bits, hin, hout, q3, q4]) | (refine WK.ret ?_; simp only [go_sem, seval, reduceCtorEq, encZ_bits, hin, hout, q3, q4]) | (refine WK.exit ?_; simp only [go_sem, seval, reduceCtorEq, encZ_bits, hin, hout, q3, q4]) | ((with_reducible refine And.intro ?_ ?_); omega) | omega)
      rw [ht]
      refine Cut.by' (by first | exact Nat.le_refl _ | (simp only [Sto.get_add, Sto.get_set, Sto.get_del, Sto.get_none, Sto.next_add, Sto.next_set, Sto.next_del, Sto.next_none]; omega)) (by first | exact Nat.le_refl _ | (simp only [Sto.get_add, Sto.get_set, Sto.get_del, Sto.get_none, Sto.next_add, Sto.next_set, Sto.next_del, Sto.next_none]; omega)) (fun i hi => ?_) (fun i o hi ho => ?_)
      · (try simp only [Sto.get_add, Sto.get_set, Sto.get_del, Sto.get_none, Sto.next_add, Sto.next_set, Sto.next_del, Sto.next_none] at hi ⊢); ((repeat' split) <;> first | exact .inl rfl | exact .inr rfl | omega | (simp_all; done))
      · (try simp only [Sto.get_add, Sto.get_set, Sto.get_del, Sto.get_none, Sto.next_add, Sto.next_set, Sto.next_del, Sto.next_none] at hi ho ⊢); ((repeat' split at ho) <;> (repeat' split) <;> first | (exact ⟨ho, .inl ho⟩) | (cases ho; done) | omega | (cases ho; refine ⟨rfl, .inl rfl⟩) | (cases ho; refine ⟨rfl, .inr ?_⟩; simp only [go_sem, seval, reduceCtorEq, encZ_bits, hin, hout, q3, q4]; first | done | omega | (refine ⟨?_, ?_⟩ <;> omega)) | (simp_all; done))
  · simp only [go_sem, seval, reduceCtorEq, encZ_bits, hin, hout, q3, q4]
    rw [List.take_length]
    have hyy : rZs c a b z = (orTrue c.js).foldl (fun out j => out &&& RY c a b z j) z := rfl
    rw [← hyy]
    have hlow' : Low n (rZs c a b z) := low_foldl_and _ _ _ hlow
    generalize rZs c a b z = z' at *
    have hs := same_ok (gl := gl) n z z' p3 hlow hlow'
    have hf : Cut (Sto.none.add (.box (ctCells c))) (((Sto.none.add (.box (ctCells c))).add (.row 1 (bitsA n z') false)).frz 1 (bitsA n z')) (Sto.none.add (.box (ctCells c))) :=
      cut_frz (BSto.none.add (by simp only [go_sem, seval, reduceCtorEq])) (.row 1 (bitsA n z') false) (bitsA n z')
    refine WK.freeze 1 (by simp only [go_sem, seval, reduceCtorEq]; rfl) ?_
    refine WK.lessT 4 (v := encZ n z') (by simp only [go_sem, seval, reduceCtorEq, bits_len]; rw [List.take_of_length_le (by simp [bits_len])]; exact .refl _) ?_
    try simp only [go_sem, seval, reduceCtorEq, encZ_bits, hin, hout, q3, q4]
    repeat (first | refine WK.blockSeq ?_ | refine WK.blockCond ?_ | refine WK.blockReg ?_ | (refine WK.condT ?_ ?_; (focus (simp only [go_sem, seval, reduceCtorEq, encZ_bits, hin, hout, q3, q4]; done))) | (refine WK.condF ?_ ?_; (focus (simp only [go_sem, seval, reduceCtorEq, encZ_bits, hin, hout, q3, q4]; done))) | refine WK.seq ?_ | (refine WK.reg ?_; simp only [go_sem, seval, reduceCtorEq, encZ_bits, hin, hout, q3, q4]) | (refine WK.skip ?_; simp only [go_sem, seval, reduceCtorEq, encZ_bits, hin, hout, q3, q4]) | (refine WK.ret ?_; simp only [go_sem, seval, reduceCtorEq, encZ_bits, hin, hout, q3, q4]) | (refine WK.exit ?_; simp only [go_sem, seval, reduceCtorEq, encZ_bits, hin, hout, q3, q4]) | ((with_reducible refine And.intro ?_ ?_); omega) | omega)
    refine callK_pureL (hs) rfl (by simp only [go_sem, seval, reduceCtorEq, encZ_bits, hin, hout, q3, q4]) (by simp only [go_sem, seval, reduceCtorEq, encZ_bits, hin, hout, q3, q4]) ?_
    simp only [go_sem, seval, reduceCtorEq, encZ_bits, hin, hout, q3, q4]
    try simp only [go_sem, seval, reduceCtorEq, encZ_bits, hin, hout, q3, q4]
    repeat (first | refine WK.blockSeq ?_ | refine WK.blockCond ?_ | refine WK.blockReg ?_ | (refine WK.condT ?_ ?_; (focus (simp only [go_sem, seval, reduceCtorEq, encZ_bits, hin, hout, q3, q4]; done))) | (refine WK.condF ?_ ?_; (focus (simp only [go_sem, seval, reduceCtorEq, encZ_bits, hin, hout, q3, q4]; done))) | refine WK.seq ?_ | (refine WK.reg ?_; simp only [go_sem, seval, reduceCtorEq, encZ_bits, hin, hout, q3, q4]) | (refine WK.skip ?_; simp only [go_sem, seval, reduceCtorEq, encZ_bits, hin, hout, q3, q4]) | (refine WK.ret ?_; simp only [go_sem, seval, reduceCtorEq, encZ_bits, hin, hout, q3, q4]) | (refine WK.exit ?_; simp only [go_sem, seval, reduceCtorEq, encZ_bits, hin, hout, q3, q4]) | ((with_reducible refine And.intro ?_ ?_); omega) | omega)
    refine WK.cond _ (by simp only [go_sem, seval, reduceCtorEq, encZ_bits, hin, hout, q3, q4]; rfl) (fun h => ?_) (fun h => ?_)
    · have hx : z' = z := (beq_iff_eq.1 h).symm
      rw [if_pos hx] at hI
      simp only [Option.some.injEq, Prod.mk.injEq, and_true] at hI
      rw [← hI]
      try simp only [go_sem, seval, reduceCtorEq, encZ_bits, hin, hout, q3, q4]
      repeat (first | refine WK.blockSeq ?_ | refine WK.blockCond ?_ | refine WK.blockReg ?_ | (refine WK.condT ?_ ?_; (focus (simp only [go_sem, seval, reduceCtorEq, encZ_bits, hin, hout, q3, q4]; done))) | (refine WK.condF ?_ ?_; (focus (simp only [go_sem, seval, reduceCtorEq, encZ_bits, hin, hout, q3, q4]; done))) | refine WK.seq ?_ | (refine WK.reg ?_; simp only [go_sem, seval, reduceCtorEq, encZ_bits, hin, hout, q3, q4]) | (refine WK.skip ?_; simp only [go_sem, seval, reduceCtorEq, encZ_bits, hin, hout, q3, q4]) | (refine WK.ret ?_; simp only [go_sem, seval, reduceCtorEq, encZ_bits, hin, hout, q3, q4]) | (refine WK.exit ?_; simp only [go_sem, seval, reduceCtorEq, encZ_bits, hin, hout, q3, q4]) | ((with_reducible refine And.intro ?_ ?_); omega) | omega)
      exact cut_none _
    · have hx : ¬ z' = z := fun e => by simp [e] at h
      rw [if_neg hx] at hI
      try simp only [go_sem, seval, reduceCtorEq, encZ_bits, hin, hout, q3, q4]
      repeat (first | refine WK.blockSeq ?_ | refine WK.blockCond ?_ | refine WK.blockReg ?_ | (refine WK.condT ?_ ?_; (focus (simp only [go_sem, seval, reduceCtorEq, encZ_bits, hin, hout, q3, q4]; done))) | (refine WK.condF ?_ ?_; (focus (simp only [go_sem, seval, reduceCtorEq, encZ_bits, hin, hout, q3, q4]; done))) | refine WK.seq ?_ | (refine WK.reg ?_; simp only [go_sem, seval, reduceCtorEq, encZ_bits, hin, hout, q3, q4]) | (refine WK.skip ?_; simp only [go_sem, seval, reduceCtorEq, encZ_bits, hin, hout, q3, q4]) | (refine WK.ret ?_; simp only [go_sem, seval, reduceCtorEq, encZ_bits, hin, hout, q3, q4]) | (refine WK.exit ?_; simp only [go_sem, seval, reduceCtorEq, encZ_bits, hin, hout, q3, q4]) | ((with_reducible refine And.intro ?_ ?_); omega) | omega)
      exact ⟨(m, z'), ⟨hI, hlow'⟩, Nat.lt_succ_self m, by simp only [go_sem, seval, reduceCtorEq, encZ_bits], hf⟩
end
end Go.Sx
