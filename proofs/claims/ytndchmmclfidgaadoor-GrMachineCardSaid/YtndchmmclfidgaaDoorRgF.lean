import Derived.Test.YtndchmmclfidgaaDoorRgD
import Derived.Test.YtndchmmclfidgaaDoorSxM
import Derived.Test.YtndchmmclfidgaaDoorSxN
import Derived.Test.YtndchmmclfidgaaDoorLgAw
import Derived.Lib.TrailingZeros
import Derived.Laws.Bits64b
set_option maxRecDepth 100000
set_option maxHeartbeats 4000000
set_option linter.unusedSimpArgs false
set_option linter.unusedVariables false
set_option linter.unnecessarySimpa false
namespace Go.Sx
open Go Go.Lg Go.Proofs
theorem b153 {gl : GL} : Body (C gl).P 153 Tryd.f153 (codeOf Tryd.f153) := ⟨Tryd.func153, by kernel_rfl, by kernel_rfl⟩
theorem b152 {gl : GL} : Body (C gl).P 152 Tryd.f152 (codeOf Tryd.f152) := ⟨Tryd.func152, by kernel_rfl, by kernel_rfl⟩
theorem low_ctz {x : BitVec 64} (h : nz x = true) : lowB x = Lib.ctz 64 x.toNat := by
  have h0 : x.toNat ≠ 0 := fun e => by
    have : x = 0#64 := BitVec.eq_of_toNat_eq (by rw [e]; rfl)
    rw [this] at h; simp [nz] at h
  obtain ⟨m, hm, hk⟩ := Lib.ctzFrom_spec 64 x.toNat (by omega) x.isLt
  have e : Lib.ctz 64 x.toNat = Lib.ctzFrom 64 x.toNat := by simp [Lib.ctz, h0]
  rw [e]
  generalize Lib.ctzFrom 64 x.toNat = k at *
  have hb : ∀ i, x.getLsbD i = (decide (k ≤ i) && (2 * m + 1).testBit (i - k)) := fun i => by
    show x.toNat.testBit i = _
    rw [hm, Nat.mul_comm, Nat.testBit_mul_two_pow]
  unfold lowB
  have : fstN x.getLsbD 64 = some k := fst_some.2 ⟨hk, by rw [hb]; simp [Nat.testBit_zero], fun j hj => by rw [hb, show decide (k ≤ j) = false from decide_eq_false (by omega)]; rfl⟩
  rw [this]; rfl
theorem shr58 (n : Int) : shrI .u64 n 58 = n / 288230376151711744 := by
  unfold shrI
  show n.fdiv (2 ^ 58) = _
  have e : (2 : Int) ^ 58 = 288230376151711744 := by rfl
  rw [e, Int.fdiv_eq_ediv_of_nonneg _ (by omega)]
theorem tz_e1 (x : BitVec 64) (h0 : x.toNat ≠ 0) : IntKind.u64.wrap (0 - uB x) = ((18446744073709551616 - x.toNat : Nat) : Int) := by
  have hx := x.isLt
  unfold uB
  rw [IntKind.wrap_u64]; omega
theorem tz_e2 (x : BitVec 64) (k : Nat) (h0 : x.toNat ≠ 0) (hlow : x.toNat &&& (18446744073709551616 - x.toNat) = 2 ^ k) : andI .u64 (uB x) ((18446744073709551616 - x.toNat : Nat) : Int) = ((2 ^ k : Nat) : Int) := by
  have hx := x.isLt
  have e3 : ((18446744073709551616 - x.toNat : Nat) : Int) = uB (BitVec.ofNat 64 (18446744073709551616 - x.toNat)) := by
    unfold uB
    rw [BitVec.toNat_ofNat, Nat.mod_eq_of_lt (by omega)]
  rw [e3, and_uB]
  unfold uB
  rw [BitVec.toNat_and, BitVec.toNat_ofNat, Nat.mod_eq_of_lt (by omega), hlow]
theorem tz_e3 (q : Nat) : ((q : Int) * 285870213051353865) % 18446744073709551616 / 288230376151711744 = ((q * 285870213051353865 % 18446744073709551616 / 288230376151711744 : Nat) : Int) := by
  omega
def dbA : List AV := Lib.deBruijn64tab.map fun n : Nat => .int .u8 (n : Int)
theorem tz_e4 (i k : Nat) (hi : i < 64) (htab : Lib.deBruijn64tab.getD i 0 = k) : dbA.getD i .undef = .int .u8 (k : Nat) := by
  unfold dbA
  have hl : i < Lib.deBruijn64tab.length := hi
  rw [List.getD_eq_getElem?_getD] at htab ⊢
  rw [List.getElem?_map]
  rw [List.getElem?_eq_getElem hl] at htab ⊢
  simp only [Option.getD_some, Option.map_some] at htab ⊢
  rw [htab]
theorem tz_low (x : BitVec 64) (h0 : x.toNat ≠ 0) : x.toNat &&& (18446744073709551616 - x.toNat) = 2 ^ Lib.ctz 64 x.toNat ∧ Lib.ctz 64 x.toNat < 64 := by
  have := Lib.lowest_bit 64 x.toNat h0 x.isLt
  have e : 2 ^ 64 = 18446744073709551616 := by decide
  rw [e] at this
  exact this
theorem tz_key {x : BitVec 64} (h : nz x = true) : ∃ idx : Nat, idx < 64 ∧ shrI .u64 (IntKind.u64.wrap (andI .u64 (uB x) (IntKind.u64.wrap (0 - uB x)) * 285870213051353865)) 58 = (idx : Int) ∧ dbA.getD idx .undef = .int .u8 (lowB x : Nat) ∧ lowB x < 64 := by
  have h0 : x.toNat ≠ 0 := fun e => by
    have : x = 0#64 := BitVec.eq_of_toNat_eq (by rw [e]; rfl)
    rw [this] at h; simp [nz] at h
  obtain ⟨hlow, hk⟩ := tz_low x h0
  obtain ⟨hi, htab⟩ := Lib.deBruijn64_at _ hk
  rw [← low_ctz h] at hlow hk hi htab
  refine ⟨_, hi, ?_, tz_e4 _ _ hi htab, hk⟩
  rw [tz_e1 x h0, tz_e2 x _ h0 hlow, shr58, IntKind.wrap_u64, tz_e3]
section
variable {gl : GL} (hdb : gl.at' 4 = dbA)
include hdb
theorem tz_ok (x : BitVec 64) (hx : nz x = true) : PCall (C gl) 153 [.int .u64 (uB x)] (.int .i64 (lowB x : Nat)) := by
  refine pcallX (callX_of b153 (by simp [Tryd.ntmps153]) ?_) (by simp only [AllCl, cl_int, and_true]) (.int _ _)
  obtain ⟨idx, h1, h2, h3, h4⟩ := tz_key hx
  have h0 : (x == 0#64) = false := by unfold nz at hx; simpa using hx
  have hw : IntKind.i64.wrap ((lowB x : Nat) : Int) = ((lowB x : Nat) : Int) := wrap_lt (by omega) (by omega)
  have hlen : dbA.length = 64 := by unfold dbA; rw [List.length_map]; rfl
  have hdb' : (C gl).gl 4 = dbA := hdb
  refine W.of ?_
  rw [Tryd.ntmps153]
  simp only [toK, codeOf, Tryd.f153, go_sem, seval, reduceCtorEq]
  have H := And.intro @h0 (And.intro @h2 (And.intro @h3 (And.intro @hdb' (And.intro @hw @hlen))))
  refine autoA ?_
  try exact trivial
end
theorem bit_uB0 (z : BitVec 64) (l : Nat) : (andI .u64 (shrI .u64 (uB z) (l : Int)) 1 == 0) = !z.getLsbD l := by
  have h1 := bit_uB z l
  have h2 : andI .u64 (shrI .u64 (uB z) (l : Int)) 1 = 0 ∨ andI .u64 (shrI .u64 (uB z) (l : Int)) 1 = 1 := by
    unfold andI
    show IntKind.u64.wrap ((BitVec.ofInt 64 _ &&& BitVec.ofInt 64 1).toNat : Int) = 0 ∨ IntKind.u64.wrap ((BitVec.ofInt 64 _ &&& BitVec.ofInt 64 1).toNat : Int) = 1
    generalize BitVec.ofInt 64 (shrI .u64 (uB z) (l : Int)) = x
    have e : (x &&& BitVec.ofInt 64 1).toNat = x.toNat % 2 := by
      rw [BitVec.toNat_and]
      exact Nat.and_one_is_mod _
    rw [e, IntKind.wrap_u64]
    omega
  rcases h2 with h2 | h2
  · rw [h2] at h1 ⊢; rw [← h1]; rfl
  · rw [h2] at h1 ⊢; rw [← h1]; rfl
attribute [go_sem] bit_uB0
def encLs (lv : List (BitVec 64 × List (BitVec 64))) : AV := .list false (lv.map encLv)
theorem encLs_eq (lv : List (BitVec 64 × List (BitVec 64))) : encLs lv = .list false (lv.map encLv) := (rfl)
def stCells (tid : Nat) (z : BitVec 64) (lvs : List (List (BitVec 64 × List (BitVec 64)))) : List AV := [.ptr tid 0, .int .u64 (uB z), .list false (lvs.map encLs)]
theorem stCells_eq (tid : Nat) (z : BitVec 64) (lvs : List (List (BitVec 64 × List (BitVec 64)))) : stCells tid z lvs = [.ptr tid 0, .int .u64 (uB z), .list false (lvs.map encLs)] := (rfl)
theorem belE_encLs {m : Nat} (l : List (List (BitVec 64 × List (BitVec 64)))) : BelE m (l.map encLs) = True := eq_true fun x hx c hc => by
  obtain ⟨a, _, rfl⟩ := List.mem_map.1 hx
  simp only [encLs, AV.cells, List.mem_cons, List.not_mem_nil, or_false] at hc
  rcases hc with rfl
  exact .list _ _ (by have := belE_encLv (m := m) a; exact of_eq_true this)
attribute [go_sem] belE_encLs
section
variable {gl : GL}
theorem target_ok (tid : Nat) (t : Tb) (z : BitVec 64) (lvs : List (List (BitVec 64 × List (BitVec 64)))) (l g : Nat) (σ : Sto) (hok : TbOK t) (ht : σ.get tid = some (.box (tbCells t))) (hl : tid < σ.next) (hg : g < t.js.length)
    (hgl : g < lvs.length) (hlv : lvs[g] = (List.range (mL t z t.js[g] + 1)).map (lvE t z t.js[g])) (hm : mL t z t.js[g] < 67) :
    CallX (C gl) 152 [.agg (stCells tid z lvs), .int .i64 l, .int .i64 g] σ (.tup [.int .u64 (uB (tgt t z l g).1), .int .i64 ((tgt t z l g).2 : Nat)]) σ := by
  refine callX_of b152 (by simp [Tryd.ntmps152]) ?_
  have hah : ∀ (σ' : Sto) (x : BitVec 64), CtrX (C gl) 147 [.ptr tid 0, .int .u64 (uB x)] [] σ' (σ'.get tid = some (.box (tbCells t)) ∧ tid < σ'.next) (.int .u64 (uB (aheadB t x))) σ' := fun σ' x => ⟨fun h => ahead_ok tid t x σ' hok.good hok.row h.1 h.2⟩
  have hal : ∀ (σ' : Sto), CtrX (C gl) 133 [.ptr tid 0] [] σ' (σ'.get tid = some (.box (tbCells t))) (.int .u64 (uB (allB t.n))) σ' := fun σ' => ⟨fun h => tall_ok tid t σ' hok.n h⟩
  have hjl := hok.js
  have hjel := hok.je
  have mg : (t.js.map encW).getD g .undef = .int .u64 (uB t.js[g]) := map_getD encW t.js g hg
  have ml : (lvs.map encLs).getD g .undef = .list false (((List.range (mL t z t.js[g] + 1)).map (lvE t z t.js[g])).map encLv) := by
    rw [map_getD encLs lvs g hgl, hlv]; rfl
  have hD : t.js.getD g 0#64 = t.js[g] := by rw [List.getD_eq_getElem?_getD, List.getElem?_eq_getElem hg]; rfl
  generalize t.js[g] = j at *
  have hT : tgt t z l g = if metB t z j l = true then (z, (g + 1) % t.js.length) else ((tgL t z j l (mL t z j + 1)).getD (allB t.n), g) := by
    unfold tgt; rw [hD]
  rw [hT]
  have nz_tid : (tid = σ.next) = False := by simp; omega
  have nx_tid : ∀ j, (tid = σ.next + j) = False := fun j => by simp; omega
  refine W.of ?_
  rw [Tryd.ntmps152]
  simp only [toK, codeOf, Tryd.f152, go_sem, seval, reduceCtorEq]
  have hrem : (IntKind.i64.wrap ((g : Int) + 1)).tmod (t.js.length : Int) = (((g + 1) % t.js.length : Nat) : Int) := by
    rw [wrap_lt (by omega) (by omega), Int.tmod_eq_emod_of_nonneg (by omega)]
    push_cast; rfl
  have hL : (((List.range (mL t z j + 1)).map (lvE t z j)).map encLv).length = mL t z j + 1 := by rw [List.length_map, List.length_map, List.length_range]
  have hLi : ∀ i, i < mL t z j + 1 → (((List.range (mL t z j + 1)).map (lvE t z j)).map encLv).getD i .undef = .agg [.int .u64 (uB (yL t z j i)), .list false ((t.je.map fun f => xL t z j f i).map encW)] := fun i hi => by
    rw [map_getD encLv _ i (by rw [List.length_map, List.length_range]; exact hi), List.getElem_map, List.getElem_range]; rfl
  have hxl : ∀ i, ((t.je.map fun f => xL t z j f i).map encW).length = t.je.length := fun i => by rw [List.length_map, List.length_map]
  have hxg : ∀ i k, k < t.je.length → ((t.je.map fun f => xL t z j f i).map encW).getD k .undef = .int .u64 (uB (xL t z j (t.je.getD k 0#64) i)) := fun i k hk => by
    rw [map_getD encW _ k (by rw [List.length_map]; exact hk), List.getElem_map, List.getD_eq_getElem?_getD, List.getElem?_eq_getElem hk]; rfl
  have hfg : ∀ k, k < t.je.length → (t.je.map encW).getD k .undef = .int .u64 (uB (t.je.getD k 0#64)) := fun k hk => by
    rw [map_getD encW _ k hk, List.getD_eq_getElem?_getD, List.getElem?_eq_getElem hk]; rfl
  generalize hLL : ((List.range (mL t z j + 1)).map (lvE t z j)).map encLv = L at *
  generalize hmm : mL t z j + 1 = mm at *
  have hmm68 : mm < 68 := by omega
  have hnm : Nonempty (PLift (mm < 68 ∧ t.je.length < 1000000 ∧ t.js.length < 1000000)) := ⟨⟨hmm68, hjel, hjl⟩⟩
  clear hjel hjl hm hmm68
  cases k1 : j.getLsbD l with
  | true =>
    cases k2 : (aheadB t z).getLsbD l with
    | true =>
      have km : metB t z j l = true := by unfold metB; rw [k1, k2]; rfl
      have H := And.intro @nz_tid (And.intro @nx_tid (And.intro @stCells_eq (And.intro @ht (And.intro @nz_tid (And.intro @nx_tid (And.intro @mg (And.intro @hg (And.intro @hgl (And.intro @k1 (And.intro @k2 (And.intro @km @hrem)))))))))))
      refine autoA ?_
      repeat' (first | (refine WK.draw0 (ops := #[_, _, _, _, _, _, _, _, _, _, _, _, _]) mixed (by kernel_rfl) ?_; refine autoA ?_))
      try exact trivial
      exact cutA
    | false =>
      have km : metB t z j l = false := by unfold metB; rw [k1, k2]; rfl
      have H := And.intro @nz_tid (And.intro @nx_tid (And.intro @stCells_eq (And.intro @ht (And.intro @nz_tid (And.intro @nx_tid (And.intro @mg (And.intro @ml (And.intro @hg (And.intro @hgl (And.intro @k1 (And.intro @k2 (And.intro @km @hL))))))))))))
      refine autoA ?_
      repeat' (first | (refine WK.draw0 (ops := #[_, _, _, _, _, _, _, _, _, _, _, _, _]) mixed (by kernel_rfl) ?_; refine autoA ?_))
      try exact trivial
      obtain ⟨⟨b68, bje, bjs⟩⟩ := id hnm
      refine WK.rangeI (mm) [1, 2, 3, 50] [] (fun i => []) (fun i => (σ.add (.box [.ptr tid 0, .int .u64 (uB z), .list false (lvs.map encLs)]))) (fun i => ∀ i' < i, (lvT t z j l i').isSome = false) (by simp) (by omega) (by decide) (by simp only [go_sem, seval, reduceCtorEq, nz_tid, nx_tid]) (by simp only [go_sem, seval, reduceCtorEq, nz_tid, nx_tid]) (by simp only [go_sem, seval, reduceCtorEq, nz_tid, nx_tid, List.take_zero]) (by first | rfl | (simp only [go_sem, seval, reduceCtorEq, nz_tid, nx_tid]; done) | (refine Sto.ext' (by simp only [go_sem, seval, reduceCtorEq, nz_tid, nx_tid]) (fun i => ?_); simp only [go_sem, seval, reduceCtorEq, nz_tid, nx_tid]; repeat' split; all_goals (first | rfl | omega | simp_all))) ?_ ?_
      · intro i hi hI
        have mi := hLi i hi
        have xl := hxl i
        have hend : ∀ x, lvT t z j l i = some x → tgL t z j l mm = some x := fun x hx => by
          unfold tgL
          have : fstN (fun i => (lvT t z j l i).isSome) mm = some i := fst_some.2 ⟨hi, by rw [hx]; rfl, hI⟩
          rw [this]; exact hx
        clear b68 bje bjs
        cases a1 : (aheadB t (yL t z j i)).getLsbD l with
        | true =>
          have hx := hend (yL t z j i) (by unfold lvT; rw [a1, if_pos rfl])
          have H := And.intro @nz_tid (And.intro @nx_tid (And.intro @stCells_eq (And.intro @ht (And.intro @nz_tid (And.intro @nx_tid (And.intro @hL (And.intro @hi (And.intro @mi (And.intro @a1 (And.intro @hx (And.intro @km @Int.toNat_natCast)))))))))))
          refine autoA ?_
          repeat' (first | (refine WK.draw0 (ops := #[_, _, _, _, _, _, _, _, _, _, _, _, _]) mixed (by kernel_rfl) ?_; refine autoA ?_))
          try exact trivial
          exact cutA
        | false =>
          have H := And.intro @nz_tid (And.intro @nx_tid (And.intro @stCells_eq (And.intro @ht (And.intro @nz_tid (And.intro @nx_tid (And.intro @hL (And.intro @hi (And.intro @mi (And.intro @a1 (And.intro @km @Int.toNat_natCast))))))))))
          refine autoA ?_
          repeat' (first | (refine WK.draw0 (ops := #[_, _, _, _, _, _, _, _, _, _, _, _, _]) mixed (by kernel_rfl) ?_; refine autoA ?_))
          try exact trivial
          obtain ⟨⟨b68, bje, bjs⟩⟩ := id hnm
          refine WK.rangeI (t.je.length) [1, 2, 3, 9, 50, 51, 52, 69] [] (fun k => []) (fun k => ((σ.add (.box [.ptr tid 0, .int .u64 (uB z), .list false (lvs.map encLs)])).add (.box [.int .u64 (uB (yL t z j i)), .list false ((t.je.map fun f => xL t z j f i).map encW)]))) (fun k => ∀ k' < k, candX t l (t.je.getD k' 0#64) (xL t z j (t.je.getD k' 0#64) i) = false) (by simp) (by omega) (by decide) (by simp only [go_sem, seval, reduceCtorEq, nz_tid, nx_tid]) (by simp only [go_sem, seval, reduceCtorEq, nz_tid, nx_tid]) (by simp only [go_sem, seval, reduceCtorEq, nz_tid, nx_tid, List.take_zero]) (by first | rfl | (simp only [go_sem, seval, reduceCtorEq, nz_tid, nx_tid]; done) | (refine Sto.ext' (by simp only [go_sem, seval, reduceCtorEq, nz_tid, nx_tid]) (fun i => ?_); simp only [go_sem, seval, reduceCtorEq, nz_tid, nx_tid]; repeat' split; all_goals (first | rfl | omega | simp_all))) ?_ ?_
          · intro k hk hK
            have xg := hxg i k hk
            have fg := hfg k hk
            clear b68 bje bjs
            cases c1 : candX t l (t.je.getD k 0#64) (xL t z j (t.je.getD k 0#64) i) with
            | true =>
              have hx := hend (xL t z j (t.je.getD k 0#64) i) (by
                unfold lvT
                rw [a1, if_neg Bool.false_ne_true]
                have : fiL t z j l i = some k := fst_some.2 ⟨hk, c1, hK⟩
                rw [this]; rfl)
              simp only [candX, Bool.and_eq_true, Bool.not_eq_true'] at c1
              obtain ⟨b1, b2, b3⟩ := c1
              have H := And.intro @nz_tid (And.intro @nx_tid (And.intro @stCells_eq (And.intro @ht (And.intro @nz_tid (And.intro @nx_tid (And.intro @xl (And.intro @hk (And.intro @xg (And.intro @fg (And.intro @b1 (And.intro @b2 (And.intro @b3 (And.intro @hx (And.intro @km @Int.toNat_natCast))))))))))))))
              refine autoA ?_
              repeat' (first | (refine WK.draw0 (ops := #[_, _, _, _, _, _, _, _, _, _, _, _, _]) mixed (by kernel_rfl) ?_; refine autoA ?_))
              try exact trivial
              exact cutA
            | false =>
              have hstep : ∀ k' < k + 1, candX t l (t.je.getD k' 0#64) (xL t z j (t.je.getD k' 0#64) i) = false := fun k' h' => by
                rcases Nat.lt_succ_iff_lt_or_eq.1 h' with h' | rfl
                · exact hK k' h'
                · exact c1
              unfold candX at c1
              cases b1 : (xL t z j (t.je.getD k 0#64) i).getLsbD l with
              | false =>
                have H := And.intro @nz_tid (And.intro @nx_tid (And.intro @stCells_eq (And.intro @ht (And.intro @nz_tid (And.intro @nx_tid (And.intro @xl (And.intro @hk (And.intro @xg (And.intro @fg (And.intro @b1 (And.intro @km @Int.toNat_natCast)))))))))))
                refine autoA ?_
                repeat' (first | (refine WK.draw0 (ops := #[_, _, _, _, _, _, _, _, _, _, _, _, _]) mixed (by kernel_rfl) ?_; refine autoA ?_))
                try exact trivial
              | true =>
                cases b2 : (t.je.getD k 0#64).getLsbD l with
                | true =>
                  have H := And.intro @nz_tid (And.intro @nx_tid (And.intro @stCells_eq (And.intro @ht (And.intro @nz_tid (And.intro @nx_tid (And.intro @xl (And.intro @hk (And.intro @xg (And.intro @fg (And.intro @b1 (And.intro @b2 (And.intro @km @Int.toNat_natCast))))))))))))
                  refine autoA ?_
                  repeat' (first | (refine WK.draw0 (ops := #[_, _, _, _, _, _, _, _, _, _, _, _, _]) mixed (by kernel_rfl) ?_; refine autoA ?_))
                  try exact trivial
                | false =>
                  rw [b1, b2] at c1
                  have b3 : (aheadB t (xL t z j (t.je.getD k 0#64) i)).getLsbD l = false := c1
                  have H := And.intro @nz_tid (And.intro @nx_tid (And.intro @stCells_eq (And.intro @ht (And.intro @nz_tid (And.intro @nx_tid (And.intro @xl (And.intro @hk (And.intro @xg (And.intro @fg (And.intro @b1 (And.intro @b2 (And.intro @b3 (And.intro @km @Int.toNat_natCast)))))))))))))
                  refine autoA ?_
                  repeat' (first | (refine WK.draw0 (ops := #[_, _, _, _, _, _, _, _, _, _, _, _, _]) mixed (by kernel_rfl) ?_; refine autoA ?_))
                  try exact trivial
          · intro hK
            have hstep : ∀ i' < i + 1, (lvT t z j l i').isSome = false := fun i' h' => by
              rcases Nat.lt_succ_iff_lt_or_eq.1 h' with h' | rfl
              · exact hI i' h'
              · unfold lvT
                rw [a1, if_neg Bool.false_ne_true]
                have : fiL t z j l i' = none := fst_none.2 hK
                rw [this]; rfl
            clear b68 bje bjs
            have H := And.intro @nz_tid (And.intro @nx_tid (And.intro @stCells_eq (And.intro @ht (And.intro @nz_tid (And.intro @nx_tid @km)))))
            refine autoA ?_
            repeat' (first | (refine WK.draw0 (ops := #[_, _, _, _, _, _, _, _, _, _, _, _, _]) mixed (by kernel_rfl) ?_; refine autoA ?_))
            try exact trivial
            exact cutA
      · intro hI
        have hx : tgL t z j l mm = none := by
          unfold tgL
          have : fstN (fun i => (lvT t z j l i).isSome) mm = none := fst_none.2 hI
          rw [this]; rfl
        clear b68 bje bjs
        have H := And.intro @nz_tid (And.intro @nx_tid (And.intro @stCells_eq (And.intro @ht (And.intro @nz_tid (And.intro @nx_tid (And.intro @hx @km))))))
        refine autoA ?_
        repeat' (first | (refine WK.draw0 (ops := #[_, _, _, _, _, _, _, _, _, _, _, _, _]) mixed (by kernel_rfl) ?_; refine autoA ?_))
        try exact trivial
        exact ⟨.refl _, cutA⟩
  | false =>
    have km : metB t z j l = false := by unfold metB; rw [k1]; rfl
    have H := And.intro @nz_tid (And.intro @nx_tid (And.intro @stCells_eq (And.intro @ht (And.intro @nz_tid (And.intro @nx_tid (And.intro @mg (And.intro @ml (And.intro @hg (And.intro @hgl (And.intro @k1 (And.intro @km @hL)))))))))))
    refine autoA ?_
    repeat' (first | (refine WK.draw0 (ops := #[_, _, _, _, _, _, _, _, _, _, _, _, _]) mixed (by kernel_rfl) ?_; refine autoA ?_))
    try exact trivial
    obtain ⟨⟨b68, bje, bjs⟩⟩ := id hnm
    refine WK.rangeI (mm) [1, 2, 3, 50] [] (fun i => []) (fun i => (σ.add (.box [.ptr tid 0, .int .u64 (uB z), .list false (lvs.map encLs)]))) (fun i => ∀ i' < i, (lvT t z j l i').isSome = false) (by simp) (by omega) (by decide) (by simp only [go_sem, seval, reduceCtorEq, nz_tid, nx_tid]) (by simp only [go_sem, seval, reduceCtorEq, nz_tid, nx_tid]) (by simp only [go_sem, seval, reduceCtorEq, nz_tid, nx_tid, List.take_zero]) (by first | rfl | (simp only [go_sem, seval, reduceCtorEq, nz_tid, nx_tid]; done) | (refine Sto.ext' (by simp only [go_sem, seval, reduceCtorEq, nz_tid, nx_tid]) (fun i => ?_); simp only [go_sem, seval, reduceCtorEq, nz_tid, nx_tid]; repeat' split; all_goals (first | rfl | omega | simp_all))) ?_ ?_
    · intro i hi hI
      have mi := hLi i hi
      have xl := hxl i
      have hend : ∀ x, lvT t z j l i = some x → tgL t z j l mm = some x := fun x hx => by
        unfold tgL
        have : fstN (fun i => (lvT t z j l i).isSome) mm = some i := fst_some.2 ⟨hi, by rw [hx]; rfl, hI⟩
        rw [this]; exact hx
      clear b68 bje bjs
      cases a1 : (aheadB t (yL t z j i)).getLsbD l with
      | true =>
        have hx := hend (yL t z j i) (by unfold lvT; rw [a1, if_pos rfl])
        have H := And.intro @nz_tid (And.intro @nx_tid (And.intro @stCells_eq (And.intro @ht (And.intro @nz_tid (And.intro @nx_tid (And.intro @hL (And.intro @hi (And.intro @mi (And.intro @a1 (And.intro @hx (And.intro @km @Int.toNat_natCast)))))))))))
        refine autoA ?_
        repeat' (first | (refine WK.draw0 (ops := #[_, _, _, _, _, _, _, _, _, _, _, _, _]) mixed (by kernel_rfl) ?_; refine autoA ?_))
        try exact trivial
        exact cutA
      | false =>
        have H := And.intro @nz_tid (And.intro @nx_tid (And.intro @stCells_eq (And.intro @ht (And.intro @nz_tid (And.intro @nx_tid (And.intro @hL (And.intro @hi (And.intro @mi (And.intro @a1 (And.intro @km @Int.toNat_natCast))))))))))
        refine autoA ?_
        repeat' (first | (refine WK.draw0 (ops := #[_, _, _, _, _, _, _, _, _, _, _, _, _]) mixed (by kernel_rfl) ?_; refine autoA ?_))
        try exact trivial
        obtain ⟨⟨b68, bje, bjs⟩⟩ := id hnm
        refine WK.rangeI (t.je.length) [1, 2, 3, 9, 50, 51, 52, 69] [] (fun k => []) (fun k => ((σ.add (.box [.ptr tid 0, .int .u64 (uB z), .list false (lvs.map encLs)])).add (.box [.int .u64 (uB (yL t z j i)), .list false ((t.je.map fun f => xL t z j f i).map encW)]))) (fun k => ∀ k' < k, candX t l (t.je.getD k' 0#64) (xL t z j (t.je.getD k' 0#64) i) = false) (by simp) (by omega) (by decide) (by simp only [go_sem, seval, reduceCtorEq, nz_tid, nx_tid]) (by simp only [go_sem, seval, reduceCtorEq, nz_tid, nx_tid]) (by simp only [go_sem, seval, reduceCtorEq, nz_tid, nx_tid, List.take_zero]) (by first | rfl | (simp only [go_sem, seval, reduceCtorEq, nz_tid, nx_tid]; done) | (refine Sto.ext' (by simp only [go_sem, seval, reduceCtorEq, nz_tid, nx_tid]) (fun i => ?_); simp only [go_sem, seval, reduceCtorEq, nz_tid, nx_tid]; repeat' split; all_goals (first | rfl | omega | simp_all))) ?_ ?_
        · intro k hk hK
          have xg := hxg i k hk
          have fg := hfg k hk
          clear b68 bje bjs
          cases c1 : candX t l (t.je.getD k 0#64) (xL t z j (t.je.getD k 0#64) i) with
          | true =>
            have hx := hend (xL t z j (t.je.getD k 0#64) i) (by
              unfold lvT
              rw [a1, if_neg Bool.false_ne_true]
              have : fiL t z j l i = some k := fst_some.2 ⟨hk, c1, hK⟩
              rw [this]; rfl)
            simp only [candX, Bool.and_eq_true, Bool.not_eq_true'] at c1
            obtain ⟨b1, b2, b3⟩ := c1
            have H := And.intro @nz_tid (And.intro @nx_tid (And.intro @stCells_eq (And.intro @ht (And.intro @nz_tid (And.intro @nx_tid (And.intro @xl (And.intro @hk (And.intro @xg (And.intro @fg (And.intro @b1 (And.intro @b2 (And.intro @b3 (And.intro @hx (And.intro @km @Int.toNat_natCast))))))))))))))
            refine autoA ?_
            repeat' (first | (refine WK.draw0 (ops := #[_, _, _, _, _, _, _, _, _, _, _, _, _]) mixed (by kernel_rfl) ?_; refine autoA ?_))
            try exact trivial
            exact cutA
          | false =>
            have hstep : ∀ k' < k + 1, candX t l (t.je.getD k' 0#64) (xL t z j (t.je.getD k' 0#64) i) = false := fun k' h' => by
              rcases Nat.lt_succ_iff_lt_or_eq.1 h' with h' | rfl
              · exact hK k' h'
              · exact c1
            unfold candX at c1
            cases b1 : (xL t z j (t.je.getD k 0#64) i).getLsbD l with
            | false =>
              have H := And.intro @nz_tid (And.intro @nx_tid (And.intro @stCells_eq (And.intro @ht (And.intro @nz_tid (And.intro @nx_tid (And.intro @xl (And.intro @hk (And.intro @xg (And.intro @fg (And.intro @b1 (And.intro @km @Int.toNat_natCast)))))))))))
              refine autoA ?_
              repeat' (first | (refine WK.draw0 (ops := #[_, _, _, _, _, _, _, _, _, _, _, _, _]) mixed (by kernel_rfl) ?_; refine autoA ?_))
              try exact trivial
            | true =>
              cases b2 : (t.je.getD k 0#64).getLsbD l with
              | true =>
                have H := And.intro @nz_tid (And.intro @nx_tid (And.intro @stCells_eq (And.intro @ht (And.intro @nz_tid (And.intro @nx_tid (And.intro @xl (And.intro @hk (And.intro @xg (And.intro @fg (And.intro @b1 (And.intro @b2 (And.intro @km @Int.toNat_natCast))))))))))))
                refine autoA ?_
                repeat' (first | (refine WK.draw0 (ops := #[_, _, _, _, _, _, _, _, _, _, _, _, _]) mixed (by kernel_rfl) ?_; refine autoA ?_))
                try exact trivial
              | false =>
                rw [b1, b2] at c1
                have b3 : (aheadB t (xL t z j (t.je.getD k 0#64) i)).getLsbD l = false := c1
                have H := And.intro @nz_tid (And.intro @nx_tid (And.intro @stCells_eq (And.intro @ht (And.intro @nz_tid (And.intro @nx_tid (And.intro @xl (And.intro @hk (And.intro @xg (And.intro @fg (And.intro @b1 (And.intro @b2 (And.intro @b3 (And.intro @km @Int.toNat_natCast)))))))))))))
                refine autoA ?_
                repeat' (first | (refine WK.draw0 (ops := #[_, _, _, _, _, _, _, _, _, _, _, _, _]) mixed (by kernel_rfl) ?_; refine autoA ?_))
                try exact trivial
        · intro hK
          have hstep : ∀ i' < i + 1, (lvT t z j l i').isSome = false := fun i' h' => by
            rcases Nat.lt_succ_iff_lt_or_eq.1 h' with h' | rfl
            · exact hI i' h'
            · unfold lvT
              rw [a1, if_neg Bool.false_ne_true]
              have : fiL t z j l i' = none := fst_none.2 hK
              rw [this]; rfl
          clear b68 bje bjs
          have H := And.intro @nz_tid (And.intro @nx_tid (And.intro @stCells_eq (And.intro @ht (And.intro @nz_tid (And.intro @nx_tid @km)))))
          refine autoA ?_
          repeat' (first | (refine WK.draw0 (ops := #[_, _, _, _, _, _, _, _, _, _, _, _, _]) mixed (by kernel_rfl) ?_; refine autoA ?_))
          try exact trivial
          exact cutA
    · intro hI
      have hx : tgL t z j l mm = none := by
        unfold tgL
        have : fstN (fun i => (lvT t z j l i).isSome) mm = none := fst_none.2 hI
        rw [this]; rfl
      clear b68 bje bjs
      have H := And.intro @nz_tid (And.intro @nx_tid (And.intro @stCells_eq (And.intro @ht (And.intro @nz_tid (And.intro @nx_tid (And.intro @hx @km))))))
      refine autoA ?_
      repeat' (first | (refine WK.draw0 (ops := #[_, _, _, _, _, _, _, _, _, _, _, _, _]) mixed (by kernel_rfl) ?_; refine autoA ?_))
      try exact trivial
      exact ⟨.refl _, cutA⟩
end
theorem b151 {gl : GL} : Body (C gl).P 151 Tryd.f151 (codeOf Tryd.f151) := ⟨Tryd.func151, by kernel_rfl, by kernel_rfl⟩
theorem b93 {gl : GL} : Body (C gl).P 93 Tryd.f93 (codeOf Tryd.f93) := ⟨Tryd.func93, by kernel_rfl, by kernel_rfl⟩
def plCells (p : Pl) : List AV := [.bool p.bg, .bool p.fr, .int .i64 (p.lt : Nat), .int .i64 (p.gl : Nat)]
theorem plCells_eq (p : Pl) : plCells p = [.bool p.bg, .bool p.fr, .int .i64 (p.lt : Nat), .int .i64 (p.gl : Nat)] := (rfl)
def encPl (p : Pl) : AV := .agg (plCells p)
theorem encPl_eq (p : Pl) : encPl p = .agg [.bool p.bg, .bool p.fr, .int .i64 (p.lt : Nat), .int .i64 (p.gl : Nat)] := (rfl)
theorem shr_nat (x a : Nat) (ha : a ≤ 3) (hx : x < 64) : shrI .i64 (x : Int) (a : Int) = ((x / 2 ^ a : Nat) : Int) := by
  unfold shrI
  show (x : Int).fdiv (2 ^ (min ((a : Int).toNat) 64)) = _
  rw [Int.toNat_natCast, Nat.min_eq_left (by omega)]
  have hp : (2 : Int) ^ a = ((2 ^ a : Nat) : Int) := by push_cast; rfl
  rw [hp, Int.fdiv_eq_ediv_of_nonneg _ (Int.natCast_nonneg _), ← Int.natCast_ediv]
structure StAt (t : Tb) (p : Pl) (z : BitVec 64) (lvs : List (List (BitVec 64 × List (BitVec 64)))) (tid pb sb m : Nat) (σ : Sto) : Prop where
  n : m ≤ σ.next
  p : σ.get pb = some (.box (plCells p))
  s : σ.get sb = some (.box (stCells tid z lvs))
  t : σ.get tid = some (.box (tbCells t))
section
variable {gl : GL} (hdb : gl.at' 4 = dbA)
include hdb
theorem nextp_ok (c : Ct) (a b : Nat) (hc : CtOK c a b) (z : BitVec 64) (lvs : List (List (BitVec 64 × List (BitVec 64)))) (p : Pl) (id m tid pb sb : Nat) (I : Nat → Sto → Prop) (hlt : id < m ∧ tid < m ∧ pb < m ∧ sb < m)
    (hp : p.bg = false → p.fr = false → p.lt < 2 ^ (a + b) ∧ ∃ h : p.gl < (tab c a b).js.length, ∃ h2 : p.gl < lvs.length, lvs[p.gl] = (List.range (mL (tab c a b) z (tab c a b).js[p.gl] + 1)).map (lvE (tab c a b) z (tab c a b).js[p.gl]) ∧ mL (tab c a b) z (tab c a b).js[p.gl] < 67)
    (hst : ∀ k σ σ', I k σ → (∀ i, i < m → σ'.get i = σ.get i) → m ≤ σ'.next → I k σ') (hk : ∀ k σ, I k σ → StAt (tab c a b) p z lvs tid pb sb m σ)
    (htake : ∀ k σ, k < 2 ^ a → I k σ → ∃ σ', YStep (C gl) id [.int .i64 ((nxP c a b z p k).1 : Nat), encPl (nxP c a b z p k).2] σ true σ' ∧ I (k + 1) σ' ∧ Kept m σ σ') (σ : Sto) (h0 : I 0 σ) :
    ∃ r σ', CallS (C gl) 151 [.yld id, .ptr pb 0, .ptr sb 0] σ r σ' ∧ I (2 ^ a) σ' ∧ Kept m σ σ' := by
  refine call_of (R := fun r σ' => I (2 ^ a) σ' ∧ Kept m σ σ') b151 (by simp [Tryd.ntmps151]) ?_
  obtain ⟨hn0, hp0, hs0, ht0⟩ := hk 0 σ h0
  obtain ⟨l1, l2, l3, l4⟩ := hlt
  have hok := tab_ok hc
  have hin := hc.inn
  have q1 := shl_one a (by have := hc.a3; omega)
  have p1 := pow2_le 3 hc.a3
  have htz : ∀ x : BitVec 64, Ctr (C gl) 153 [.int .u64 (uB x)] (nz x = true) (.int .i64 (lowB x : Nat)) := fun x => ⟨fun h => tz_ok hdb x h⟩
  have hfi : ∀ (σ' : Sto) (i : Nat), CtrX (C gl) 140 [.ptr tid 0, .int .i64 i, .int .u64 (uB z)] [] σ' (σ'.get tid = some (.box (tbCells (tab c a b))) ∧ i < 2 ^ a) (.tup [.int .u64 (uB (firstR c a b i z).1), .bool (firstR c a b i z).2]) σ' := fun σ' i => ⟨fun h => first_ok tid (tab c a b) a b i z σ' hc h.2 h.1⟩
  have hg2 : (tab c a b).good.length = 2 ^ (a + b) := by simp [tab]
  have hg : ∀ l, l < 2 ^ (a + b) → ((tab c a b).good.map encRow).getD l .undef = .list false ((rowT c a b l).map encStep) := fun l hl => by
    rw [map_getD encRow (tab c a b).good l (by rw [hg2]; exact hl)]
    have e : (tab c a b).good[l]'(by rw [hg2]; exact hl) = rowT c a b l := by simp [tab]
    rw [e]; rfl
  have hrl : ∀ l, ((rowT c a b l).map encStep).length = 2 ^ a := fun l => by simp [rowT]
  have hrg : ∀ l i, i < 2 ^ a → ((rowT c a b l).map encStep).getD i .undef = .agg [.bool (holdsF l i c.se), .int .u64 (uB (stepB c.ss a l i (2 ^ b)))] := fun l i hi => by
    rw [map_getD encStep (rowT c a b l) i (by simp [rowT]; exact hi)]
    simp [rowT, encStep]
  have htc : (tab c a b).c = c := rfl
  have hcn : (2 ^ a : Nat) < 9223372036854775807 := by omega
  refine W.of ?_
  rw [Tryd.ntmps151]
  simp only [toK, codeOf, Tryd.f151, go_sem, seval, reduceCtorEq]
  have zc0 : ((0 : Nat) : Int) = 0 := rfl
  cases e1 : p.bg with
  | true =>
    have H := And.intro @plCells_eq (And.intro @stCells_eq (And.intro @hp0 (And.intro @hs0 (And.intro @ht0 (And.intro @e1 (And.intro @hin (And.intro @q1 @htc)))))))
    refine autoA ?_
    repeat' (first | (refine WK.draw (ops := #[_, _, _, _, _, _, _, _, _, _, _, _, _, _]) [dq 0 0, dq 0 1, dq 0 0, dq 0 0, dq 0 1, dq 0 0, dq 0 1, dq 0 1, dq 0 1, dq 0 0, dq 0 1, dq 0 1, dm, dm] mixed (by kernel_rfl) ?_; refine autoA ?_) | (refine WK.draw0 (ops := #[_, _, _, _, _, _, _, _, _]) mixed (by kernel_rfl) ?_; refine autoA ?_) | (refine WK.draw (ops := #[_, _, _, _, _, _, _, _, _, _, _, _, _]) [dq 0 0, dq 0 0, dq 0 0, dq 0 0, dq 0 0, dq 0 1, dq 0 0, dq 0 0, dq 0 0, dq 0 1, dq 0 0, dm, dq 0 0] mixed (by kernel_rfl) ?_; refine autoA ?_))
    try exact trivial
    refine WK.range (2 ^ a) hcn (fun i env τ => env 0 = .yld id ∧ env 1 = .ptr pb 0 ∧ env 2 = .ptr sb 0 ∧ env 4 = .int .u64 0 ∧ env 5 = .int .i64 0 ∧ I i τ ∧ Kept m σ τ) (by decide) (by simp [go_sem]) (by simp [go_sem]) ⟨by simp [go_sem], by simp [go_sem], by simp [go_sem], by simp [go_sem], by simp [go_sem], h0, .refl _ _⟩ (by rintro i env σ v t (rfl | rfl | rfl) h <;> simpa [upd] using h) ?step ?done
    case step =>
      rintro i env τ hi ⟨v0, v1, v2, v4, v5, hIi, hkk⟩ hi1 hi2
      obtain ⟨hn, hpA, hsA, htA⟩ := hk i τ hIi
      have b1 : pb < τ.next := by omega
      have b2 : sb < τ.next := by omega
      have b3 : tid < τ.next := by omega
      have nz_tid : (tid = τ.next) = False := by simp; omega
      have nx_tid : ∀ j, (tid = τ.next + j) = False := fun j => by simp; omega
      have nz_pb : (pb = τ.next) = False := by simp; omega
      have nx_pb : ∀ j, (pb = τ.next + j) = False := fun j => by simp; omega
      have nz_sb : (sb = τ.next) = False := by simp; omega
      have nx_sb : ∀ j, (sb = τ.next + j) = False := fun j => by simp; omega
      have hLt : ltsP c a b z p i = firstR c a b i z := by unfold ltsP; rw [e1, if_pos rfl]
      have hGo : goalP c a b z p = 0 := by unfold goalP; rw [if_pos (.inl e1)]
      cases f1 : (firstR c a b i z).2 with
      | true =>
        have hnx : nxP c a b z p i = (0, .free) := by unfold nxP; rw [hLt, f1, if_neg (by simp)]
        have H := And.intro @nz_tid (And.intro @nx_tid (And.intro @nz_pb (And.intro @nx_pb (And.intro @nz_sb (And.intro @nx_sb (And.intro @plCells_eq (And.intro @stCells_eq (And.intro @hpA (And.intro @hsA (And.intro @htA (And.intro @nz_tid (And.intro @nx_tid (And.intro @nz_pb (And.intro @nx_pb (And.intro @nz_sb (And.intro @nx_sb (And.intro @e1 (And.intro @hin (And.intro @htc (And.intro @hi (And.intro @hi1 (And.intro @v0 (And.intro @v1 (And.intro @v2 (And.intro @v4 (And.intro @v5 @f1))))))))))))))))))))))))))
        refine autoA ?_
        repeat' (first | (refine WK.draw (ops := #[_, _, _, _, _, _, _, _, _, _, _, _, _, _]) [dq 0 0, dq 0 1, dq 0 0, dq 0 0, dq 0 1, dq 0 0, dq 0 1, dq 0 1, dq 0 1, dq 0 0, dq 0 1, dq 0 1, dm, dm] mixed (by kernel_rfl) ?_; refine autoA ?_) | (refine WK.draw0 (ops := #[_, _, _, _, _, _, _, _, _]) mixed (by kernel_rfl) ?_; refine autoA ?_) | (refine WK.draw (ops := #[_, _, _, _, _, _, _, _, _, _, _, _, _]) [dq 0 0, dq 0 0, dq 0 0, dq 0 0, dq 0 0, dq 0 1, dq 0 0, dq 0 0, dq 0 0, dq 0 1, dq 0 0, dm, dq 0 0] mixed (by kernel_rfl) ?_; refine autoA ?_))
        try exact trivial
        obtain ⟨σ', hs1, hI', hk'⟩ := htake i (τ.add (.box [.bool false, .bool true, .int .i64 0, .int .i64 0])) hi (hst i τ _ hIi (fun j hj => by simp only [Sto.get_add, Sto.next_add]; repeat rw [if_neg (by omega)]) (by simp only [Sto.next_add]; omega))
        rw [hnx] at hs1
        simp only [encPl_eq, Pl.free, zc0] at hs1
        have hK : Kept m σ σ' := hkk.trans ((Kept.add m τ _).trans hk')
        refine callK_yield hs1 rfl (by simp only [go_sem, seval, reduceCtorEq, v0]) (by simp only [go_sem, seval, reduceCtorEq]) ?_
        have H := And.intro @nz_tid (And.intro @nx_tid (And.intro @nz_pb (And.intro @nx_pb (And.intro @nz_sb (And.intro @nx_sb (And.intro @hi1 (And.intro @hi2 (And.intro @v0 (And.intro @v1 (And.intro @v2 (And.intro @v4 @v5)))))))))))
        refine autoA ?_
        repeat' (first | (refine WK.draw (ops := #[_, _, _, _, _, _, _, _, _, _, _, _, _, _]) [dq 0 0, dq 0 1, dq 0 0, dq 0 0, dq 0 1, dq 0 0, dq 0 1, dq 0 1, dq 0 1, dq 0 0, dq 0 1, dq 0 1, dm, dm] mixed (by kernel_rfl) ?_; refine autoA ?_) | (refine WK.draw0 (ops := #[_, _, _, _, _, _, _, _, _]) mixed (by kernel_rfl) ?_; refine autoA ?_) | (refine WK.draw (ops := #[_, _, _, _, _, _, _, _, _, _, _, _, _]) [dq 0 0, dq 0 0, dq 0 0, dq 0 0, dq 0 0, dq 0 1, dq 0 0, dq 0 0, dq 0 0, dq 0 1, dq 0 0, dm, dq 0 0] mixed (by kernel_rfl) ?_; refine autoA ?_))
        try exact trivial
      | false =>
        generalize hx : (firstR c a b i z).1 = x at *
        cases f2 : nz x with
        | false =>
          have hnx : nxP c a b z p i = (0, .free) := by unfold nxP; rw [hLt, hx, f2, if_neg (by simp)]
          have f3 : (x == 0#64) = true := by unfold nz at f2; simpa using f2
          have H := And.intro @nz_tid (And.intro @nx_tid (And.intro @nz_pb (And.intro @nx_pb (And.intro @nz_sb (And.intro @nx_sb (And.intro @plCells_eq (And.intro @stCells_eq (And.intro @hpA (And.intro @hsA (And.intro @htA (And.intro @nz_tid (And.intro @nx_tid (And.intro @nz_pb (And.intro @nx_pb (And.intro @nz_sb (And.intro @nx_sb (And.intro @e1 (And.intro @hin (And.intro @htc (And.intro @hi (And.intro @hi1 (And.intro @v0 (And.intro @v1 (And.intro @v2 (And.intro @v4 (And.intro @v5 (And.intro @f1 (And.intro @hx @f3))))))))))))))))))))))))))))
          refine autoA ?_
          repeat' (first | (refine WK.draw (ops := #[_, _, _, _, _, _, _, _, _, _, _, _, _, _]) [dq 0 0, dq 0 1, dq 0 0, dq 0 0, dq 0 1, dq 0 0, dq 0 1, dq 0 1, dq 0 1, dq 0 0, dq 0 1, dq 0 1, dm, dm] mixed (by kernel_rfl) ?_; refine autoA ?_) | (refine WK.draw0 (ops := #[_, _, _, _, _, _, _, _, _]) mixed (by kernel_rfl) ?_; refine autoA ?_) | (refine WK.draw (ops := #[_, _, _, _, _, _, _, _, _, _, _, _, _]) [dq 0 0, dq 0 0, dq 0 0, dq 0 0, dq 0 0, dq 0 1, dq 0 0, dq 0 0, dq 0 0, dq 0 1, dq 0 0, dm, dq 0 0] mixed (by kernel_rfl) ?_; refine autoA ?_))
          try exact trivial
          obtain ⟨σ', hs1, hI', hk'⟩ := htake i (τ.add (.box [.bool false, .bool true, .int .i64 0, .int .i64 0])) hi (hst i τ _ hIi (fun j hj => by simp only [Sto.get_add, Sto.next_add]; repeat rw [if_neg (by omega)]) (by simp only [Sto.next_add]; omega))
          rw [hnx] at hs1
          simp only [encPl_eq, Pl.free, zc0] at hs1
          have hK : Kept m σ σ' := hkk.trans ((Kept.add m τ _).trans hk')
          refine callK_yield hs1 rfl (by simp only [go_sem, seval, reduceCtorEq, v0]) (by simp only [go_sem, seval, reduceCtorEq]) ?_
          have H := And.intro @nz_tid (And.intro @nx_tid (And.intro @nz_pb (And.intro @nx_pb (And.intro @nz_sb (And.intro @nx_sb (And.intro @hi1 (And.intro @hi2 (And.intro @v0 (And.intro @v1 (And.intro @v2 (And.intro @v4 @v5)))))))))))
          refine autoA ?_
          repeat' (first | (refine WK.draw (ops := #[_, _, _, _, _, _, _, _, _, _, _, _, _, _]) [dq 0 0, dq 0 1, dq 0 0, dq 0 0, dq 0 1, dq 0 0, dq 0 1, dq 0 1, dq 0 1, dq 0 0, dq 0 1, dq 0 1, dm, dm] mixed (by kernel_rfl) ?_; refine autoA ?_) | (refine WK.draw0 (ops := #[_, _, _, _, _, _, _, _, _]) mixed (by kernel_rfl) ?_; refine autoA ?_) | (refine WK.draw (ops := #[_, _, _, _, _, _, _, _, _, _, _, _, _]) [dq 0 0, dq 0 0, dq 0 0, dq 0 0, dq 0 0, dq 0 1, dq 0 0, dq 0 0, dq 0 0, dq 0 1, dq 0 0, dm, dq 0 0] mixed (by kernel_rfl) ?_; refine autoA ?_))
          try exact trivial
        | true =>
          have hnx : nxP c a b z p i = (lowB x / 2 ^ a, ⟨false, false, lowB x, 0⟩) := by unfold nxP; rw [hLt, hx, f1, f2, if_pos ⟨rfl, rfl⟩, hGo]
          have f3 : (x == 0#64) = false := by unfold nz at f2; simpa using f2
          have hsh := shr_nat (lowB x) a hc.a3 (low_in f2).1
          have H := And.intro @nz_tid (And.intro @nx_tid (And.intro @nz_pb (And.intro @nx_pb (And.intro @nz_sb (And.intro @nx_sb (And.intro @plCells_eq (And.intro @stCells_eq (And.intro @hpA (And.intro @hsA (And.intro @htA (And.intro @nz_tid (And.intro @nx_tid (And.intro @nz_pb (And.intro @nx_pb (And.intro @nz_sb (And.intro @nx_sb (And.intro @e1 (And.intro @hin (And.intro @htc (And.intro @hi (And.intro @hi1 (And.intro @v0 (And.intro @v1 (And.intro @v2 (And.intro @v4 (And.intro @v5 (And.intro @f1 (And.intro @hx (And.intro @f3 @hsh)))))))))))))))))))))))))))))
          refine autoA ?_
          repeat' (first | (refine WK.draw (ops := #[_, _, _, _, _, _, _, _, _, _, _, _, _, _]) [dq 0 0, dq 0 1, dq 0 0, dq 0 0, dq 0 1, dq 0 0, dq 0 1, dq 0 1, dq 0 1, dq 0 0, dq 0 1, dq 0 1, dm, dm] mixed (by kernel_rfl) ?_; refine autoA ?_) | (refine WK.draw0 (ops := #[_, _, _, _, _, _, _, _, _]) mixed (by kernel_rfl) ?_; refine autoA ?_) | (refine WK.draw (ops := #[_, _, _, _, _, _, _, _, _, _, _, _, _]) [dq 0 0, dq 0 0, dq 0 0, dq 0 0, dq 0 0, dq 0 1, dq 0 0, dq 0 0, dq 0 0, dq 0 1, dq 0 0, dm, dq 0 0] mixed (by kernel_rfl) ?_; refine autoA ?_))
          try exact trivial
          obtain ⟨σ', hs1, hI', hk'⟩ := htake i (τ.add (.box [.bool false, .bool false, .int .i64 (lowB x : Nat), .int .i64 0])) hi (hst i τ _ hIi (fun j hj => by simp only [Sto.get_add, Sto.next_add]; repeat rw [if_neg (by omega)]) (by simp only [Sto.next_add]; omega))
          rw [hnx] at hs1
          simp only [encPl_eq, Pl.free, zc0] at hs1
          have hK : Kept m σ σ' := hkk.trans ((Kept.add m τ _).trans hk')
          refine callK_yield hs1 rfl (by simp only [go_sem, seval, reduceCtorEq, v0]) (by simp only [go_sem, seval, reduceCtorEq]) ?_
          have H := And.intro @nz_tid (And.intro @nx_tid (And.intro @nz_pb (And.intro @nx_pb (And.intro @nz_sb (And.intro @nx_sb (And.intro @hi1 (And.intro @hi2 (And.intro @v0 (And.intro @v1 (And.intro @v2 (And.intro @v4 @v5)))))))))))
          refine autoA ?_
          repeat' (first | (refine WK.draw (ops := #[_, _, _, _, _, _, _, _, _, _, _, _, _, _]) [dq 0 0, dq 0 1, dq 0 0, dq 0 0, dq 0 1, dq 0 0, dq 0 1, dq 0 1, dq 0 1, dq 0 0, dq 0 1, dq 0 1, dm, dm] mixed (by kernel_rfl) ?_; refine autoA ?_) | (refine WK.draw0 (ops := #[_, _, _, _, _, _, _, _, _]) mixed (by kernel_rfl) ?_; refine autoA ?_) | (refine WK.draw (ops := #[_, _, _, _, _, _, _, _, _, _, _, _, _]) [dq 0 0, dq 0 0, dq 0 0, dq 0 0, dq 0 0, dq 0 1, dq 0 0, dq 0 0, dq 0 0, dq 0 1, dq 0 0, dm, dq 0 0] mixed (by kernel_rfl) ?_; refine autoA ?_))
          try exact trivial
    case done =>
      rintro env τ ⟨_, _, _, _, _, hIi, hkk⟩ _ _
      exact ⟨.inl rfl, hIi, hkk⟩
  | false =>
  cases e2 : p.fr with
  | true =>
    have H := And.intro @plCells_eq (And.intro @stCells_eq (And.intro @hp0 (And.intro @hs0 (And.intro @ht0 (And.intro @e1 (And.intro @e2 (And.intro @hin (And.intro @q1 @htc))))))))
    refine autoA ?_
    repeat' (first | (refine WK.draw (ops := #[_, _, _, _, _, _, _, _, _, _, _, _, _, _]) [dq 0 0, dq 0 1, dq 0 0, dq 0 0, dq 0 1, dq 0 0, dq 0 1, dq 0 1, dq 0 1, dq 0 0, dq 0 1, dq 0 1, dm, dm] mixed (by kernel_rfl) ?_; refine autoA ?_) | (refine WK.draw0 (ops := #[_, _, _, _, _, _, _, _, _]) mixed (by kernel_rfl) ?_; refine autoA ?_) | (refine WK.draw (ops := #[_, _, _, _, _, _, _, _, _, _, _, _, _]) [dq 0 0, dq 0 0, dq 0 0, dq 0 0, dq 0 0, dq 0 1, dq 0 0, dq 0 0, dq 0 0, dq 0 1, dq 0 0, dm, dq 0 0] mixed (by kernel_rfl) ?_; refine autoA ?_))
    try exact trivial
    refine WK.range (2 ^ a) hcn (fun i env τ => env 0 = .yld id ∧ env 1 = .ptr pb 0 ∧ env 2 = .ptr sb 0 ∧ env 4 = .int .u64 0 ∧ env 5 = .int .i64 0 ∧ I i τ ∧ Kept m σ τ) (by decide) (by simp [go_sem]) (by simp [go_sem]) ⟨by simp [go_sem], by simp [go_sem], by simp [go_sem], by simp [go_sem], by simp [go_sem], h0, .refl _ _⟩ (by rintro i env σ v t (rfl | rfl | rfl) h <;> simpa [upd] using h) ?step ?done
    case step =>
      rintro i env τ hi ⟨v0, v1, v2, v4, v5, hIi, hkk⟩ hi1 hi2
      obtain ⟨hn, hpA, hsA, htA⟩ := hk i τ hIi
      have b1 : pb < τ.next := by omega
      have b2 : sb < τ.next := by omega
      have b3 : tid < τ.next := by omega
      have nz_tid : (tid = τ.next) = False := by simp; omega
      have nx_tid : ∀ j, (tid = τ.next + j) = False := fun j => by simp; omega
      have nz_pb : (pb = τ.next) = False := by simp; omega
      have nx_pb : ∀ j, (pb = τ.next + j) = False := fun j => by simp; omega
      have nz_sb : (sb = τ.next) = False := by simp; omega
      have nx_sb : ∀ j, (sb = τ.next + j) = False := fun j => by simp; omega
      have hnx : nxP c a b z p i = (0, .free) := by
        have hLt : ltsP c a b z p i = (0#64, true) := by unfold ltsP; rw [e1, e2, if_neg (by simp), if_pos rfl]
        unfold nxP; rw [hLt, if_neg (by simp)]
      have H := And.intro @nz_tid (And.intro @nx_tid (And.intro @nz_pb (And.intro @nx_pb (And.intro @nz_sb (And.intro @nx_sb (And.intro @plCells_eq (And.intro @stCells_eq (And.intro @hpA (And.intro @hsA (And.intro @htA (And.intro @nz_tid (And.intro @nx_tid (And.intro @nz_pb (And.intro @nx_pb (And.intro @nz_sb (And.intro @nx_sb (And.intro @e1 (And.intro @hin (And.intro @htc (And.intro @hi (And.intro @hi1 (And.intro @v0 (And.intro @v1 (And.intro @v2 (And.intro @v4 (And.intro @v5 @e2))))))))))))))))))))))))))
      refine autoA ?_
      repeat' (first | (refine WK.draw (ops := #[_, _, _, _, _, _, _, _, _, _, _, _, _, _]) [dq 0 0, dq 0 1, dq 0 0, dq 0 0, dq 0 1, dq 0 0, dq 0 1, dq 0 1, dq 0 1, dq 0 0, dq 0 1, dq 0 1, dm, dm] mixed (by kernel_rfl) ?_; refine autoA ?_) | (refine WK.draw0 (ops := #[_, _, _, _, _, _, _, _, _]) mixed (by kernel_rfl) ?_; refine autoA ?_) | (refine WK.draw (ops := #[_, _, _, _, _, _, _, _, _, _, _, _, _]) [dq 0 0, dq 0 0, dq 0 0, dq 0 0, dq 0 0, dq 0 1, dq 0 0, dq 0 0, dq 0 0, dq 0 1, dq 0 0, dm, dq 0 0] mixed (by kernel_rfl) ?_; refine autoA ?_))
      try exact trivial
      obtain ⟨σ', hs1, hI', hk'⟩ := htake i (τ.add (.box [.bool false, .bool true, .int .i64 0, .int .i64 0])) hi (hst i τ _ hIi (fun j hj => by simp only [Sto.get_add, Sto.next_add]; repeat rw [if_neg (by omega)]) (by simp only [Sto.next_add]; omega))
      rw [hnx] at hs1
      simp only [encPl_eq, Pl.free, zc0] at hs1
      have hK : Kept m σ σ' := hkk.trans ((Kept.add m τ _).trans hk')
      refine callK_yield hs1 rfl (by simp only [go_sem, seval, reduceCtorEq, v0]) (by simp only [go_sem, seval, reduceCtorEq]) ?_
      have H := And.intro @nz_tid (And.intro @nx_tid (And.intro @nz_pb (And.intro @nx_pb (And.intro @nz_sb (And.intro @nx_sb (And.intro @hi1 (And.intro @hi2 (And.intro @v0 (And.intro @v1 (And.intro @v2 (And.intro @v4 @v5)))))))))))
      refine autoA ?_
      repeat' (first | (refine WK.draw (ops := #[_, _, _, _, _, _, _, _, _, _, _, _, _, _]) [dq 0 0, dq 0 1, dq 0 0, dq 0 0, dq 0 1, dq 0 0, dq 0 1, dq 0 1, dq 0 1, dq 0 0, dq 0 1, dq 0 1, dm, dm] mixed (by kernel_rfl) ?_; refine autoA ?_) | (refine WK.draw0 (ops := #[_, _, _, _, _, _, _, _, _]) mixed (by kernel_rfl) ?_; refine autoA ?_) | (refine WK.draw (ops := #[_, _, _, _, _, _, _, _, _, _, _, _, _]) [dq 0 0, dq 0 0, dq 0 0, dq 0 0, dq 0 0, dq 0 1, dq 0 0, dq 0 0, dq 0 0, dq 0 1, dq 0 0, dm, dq 0 0] mixed (by kernel_rfl) ?_; refine autoA ?_))
      try exact trivial
    case done =>
      rintro env τ ⟨_, _, _, _, _, hIi, hkk⟩ _ _
      exact ⟨.inl rfl, hIi, hkk⟩
  | false =>
    obtain ⟨hpl, hgj, hgl, hlv, hm⟩ := hp e1 e2
    have htg : ∀ σ', CtrX (C gl) 152 [.agg (stCells tid z lvs), .int .i64 (p.lt : Nat), .int .i64 (p.gl : Nat)] [] σ' (σ'.get tid = some (.box (tbCells (tab c a b))) ∧ tid < σ'.next) (.tup [.int .u64 (uB (tgt (tab c a b) z p.lt p.gl).1), .int .i64 ((tgt (tab c a b) z p.lt p.gl).2 : Nat)]) σ' := fun σ' => ⟨fun h => target_ok tid (tab c a b) z lvs p.lt p.gl σ' hok h.1 h.2 hgj hgl hlv hm⟩
    simp only [stCells_eq] at htg
    have htn : tid < σ.next := by omega
    have hgp := hg p.lt hpl
    have hrl := hrl p.lt
    have hrg := hrg p.lt
    have H := And.intro @plCells_eq (And.intro @stCells_eq (And.intro @hp0 (And.intro @hs0 (And.intro @ht0 (And.intro @e1 (And.intro @e2 (And.intro @hin (And.intro @q1 (And.intro @htc @htn)))))))))
    refine autoA ?_
    repeat' (first | (refine WK.draw (ops := #[_, _, _, _, _, _, _, _, _, _, _, _, _, _]) [dq 0 0, dq 0 1, dq 0 0, dq 0 0, dq 0 1, dq 0 0, dq 0 1, dq 0 1, dq 0 1, dq 0 0, dq 0 1, dq 0 1, dm, dm] mixed (by kernel_rfl) ?_; refine autoA ?_) | (refine WK.draw0 (ops := #[_, _, _, _, _, _, _, _, _]) mixed (by kernel_rfl) ?_; refine autoA ?_) | (refine WK.draw (ops := #[_, _, _, _, _, _, _, _, _, _, _, _, _]) [dq 0 0, dq 0 0, dq 0 0, dq 0 0, dq 0 0, dq 0 1, dq 0 0, dq 0 0, dq 0 0, dq 0 1, dq 0 0, dm, dq 0 0] mixed (by kernel_rfl) ?_; refine autoA ?_))
    try exact trivial
    refine WK.range (2 ^ a) hcn (fun i env τ => env 0 = .yld id ∧ env 1 = .ptr pb 0 ∧ env 2 = .ptr sb 0 ∧ env 4 = .int .u64 (uB (tgt (tab c a b) z p.lt p.gl).1) ∧ env 5 = .int .i64 ((tgt (tab c a b) z p.lt p.gl).2 : Nat) ∧ I i τ ∧ Kept m σ τ) (by decide) (by simp [go_sem]) (by simp [go_sem]) ⟨by simp [go_sem], by simp [go_sem], by simp [go_sem], by simp [go_sem], by simp [go_sem], h0, .refl _ _⟩ (by rintro i env σ v t (rfl | rfl | rfl) h <;> simpa [upd] using h) ?step ?done
    case step =>
      rintro i env τ hi ⟨v0, v1, v2, v4, v5, hIi, hkk⟩ hi1 hi2
      obtain ⟨hn, hpA, hsA, htA⟩ := hk i τ hIi
      have b1 : pb < τ.next := by omega
      have b2 : sb < τ.next := by omega
      have b3 : tid < τ.next := by omega
      have nz_tid : (tid = τ.next) = False := by simp; omega
      have nx_tid : ∀ j, (tid = τ.next + j) = False := fun j => by simp; omega
      have nz_pb : (pb = τ.next) = False := by simp; omega
      have nx_pb : ∀ j, (pb = τ.next + j) = False := fun j => by simp; omega
      have nz_sb : (sb = τ.next) = False := by simp; omega
      have nx_sb : ∀ j, (sb = τ.next + j) = False := fun j => by simp; omega
      have hri := hrg i hi
      have hLt : ltsP c a b z p i = (stepB c.ss a p.lt i (2 ^ b) &&& (tgt (tab c a b) z p.lt p.gl).1, !holdsF p.lt i c.se) := by unfold ltsP; rw [e1, e2, if_neg (by simp), if_neg (by simp)]
      have hGo : goalP c a b z p = (tgt (tab c a b) z p.lt p.gl).2 := by unfold goalP; rw [e1, e2, if_neg (by simp)]
      cases f1 : holdsF p.lt i c.se with
      | false =>
        have hnx : nxP c a b z p i = (0, .free) := by unfold nxP; rw [hLt, f1, if_neg (by simp)]
        have H := And.intro @nz_tid (And.intro @nx_tid (And.intro @nz_pb (And.intro @nx_pb (And.intro @nz_sb (And.intro @nx_sb (And.intro @plCells_eq (And.intro @stCells_eq (And.intro @hpA (And.intro @hsA (And.intro @htA (And.intro @nz_tid (And.intro @nx_tid (And.intro @nz_pb (And.intro @nx_pb (And.intro @nz_sb (And.intro @nx_sb (And.intro @e1 (And.intro @hin (And.intro @htc (And.intro @hi (And.intro @hi1 (And.intro @v0 (And.intro @v1 (And.intro @v2 (And.intro @v4 (And.intro @v5 (And.intro @e2 (And.intro @hgp (And.intro @hrl (And.intro @hri (And.intro @hg2 (And.intro @hpl @f1))))))))))))))))))))))))))))))))
        refine autoA ?_
        repeat' (first | (refine WK.draw (ops := #[_, _, _, _, _, _, _, _, _, _, _, _, _, _]) [dq 0 0, dq 0 1, dq 0 0, dq 0 0, dq 0 1, dq 0 0, dq 0 1, dq 0 1, dq 0 1, dq 0 0, dq 0 1, dq 0 1, dm, dm] mixed (by kernel_rfl) ?_; refine autoA ?_) | (refine WK.draw0 (ops := #[_, _, _, _, _, _, _, _, _]) mixed (by kernel_rfl) ?_; refine autoA ?_) | (refine WK.draw (ops := #[_, _, _, _, _, _, _, _, _, _, _, _, _]) [dq 0 0, dq 0 0, dq 0 0, dq 0 0, dq 0 0, dq 0 1, dq 0 0, dq 0 0, dq 0 0, dq 0 1, dq 0 0, dm, dq 0 0] mixed (by kernel_rfl) ?_; refine autoA ?_))
        try exact trivial
        obtain ⟨σ', hs1, hI', hk'⟩ := htake i ((τ.add (.box [.bool (false), .int .u64 (uB (stepB c.ss a p.lt i (2 ^ b)))])).add (.box [.bool false, .bool true, .int .i64 0, .int .i64 0])) hi (hst i τ _ hIi (fun j hj => by simp only [Sto.get_add, Sto.next_add]; repeat rw [if_neg (by omega)]) (by simp only [Sto.next_add]; omega))
        rw [hnx] at hs1
        simp only [encPl_eq, Pl.free, zc0] at hs1
        have hK : Kept m σ σ' := hkk.trans (((Kept.add m τ _).trans (Kept.add m _ _)).trans hk')
        refine callK_yield hs1 rfl (by simp only [go_sem, seval, reduceCtorEq, v0]) (by simp only [go_sem, seval, reduceCtorEq]) ?_
        have H := And.intro @nz_tid (And.intro @nx_tid (And.intro @nz_pb (And.intro @nx_pb (And.intro @nz_sb (And.intro @nx_sb (And.intro @hi1 (And.intro @hi2 (And.intro @v0 (And.intro @v1 (And.intro @v2 (And.intro @v4 @v5)))))))))))
        refine autoA ?_
        repeat' (first | (refine WK.draw (ops := #[_, _, _, _, _, _, _, _, _, _, _, _, _, _]) [dq 0 0, dq 0 1, dq 0 0, dq 0 0, dq 0 1, dq 0 0, dq 0 1, dq 0 1, dq 0 1, dq 0 0, dq 0 1, dq 0 1, dm, dm] mixed (by kernel_rfl) ?_; refine autoA ?_) | (refine WK.draw0 (ops := #[_, _, _, _, _, _, _, _, _]) mixed (by kernel_rfl) ?_; refine autoA ?_) | (refine WK.draw (ops := #[_, _, _, _, _, _, _, _, _, _, _, _, _]) [dq 0 0, dq 0 0, dq 0 0, dq 0 0, dq 0 0, dq 0 1, dq 0 0, dq 0 0, dq 0 0, dq 0 1, dq 0 0, dm, dq 0 0] mixed (by kernel_rfl) ?_; refine autoA ?_))
        try exact trivial
      | true =>
        generalize hx : stepB c.ss a p.lt i (2 ^ b) &&& (tgt (tab c a b) z p.lt p.gl).1 = x at *
        cases f2 : nz x with
        | false =>
          have hnx : nxP c a b z p i = (0, .free) := by unfold nxP; rw [hLt, f2, if_neg (by simp)]
          have f3 : (x == 0#64) = true := by unfold nz at f2; simpa using f2
          have H := And.intro @nz_tid (And.intro @nx_tid (And.intro @nz_pb (And.intro @nx_pb (And.intro @nz_sb (And.intro @nx_sb (And.intro @plCells_eq (And.intro @stCells_eq (And.intro @hpA (And.intro @hsA (And.intro @htA (And.intro @nz_tid (And.intro @nx_tid (And.intro @nz_pb (And.intro @nx_pb (And.intro @nz_sb (And.intro @nx_sb (And.intro @e1 (And.intro @hin (And.intro @htc (And.intro @hi (And.intro @hi1 (And.intro @v0 (And.intro @v1 (And.intro @v2 (And.intro @v4 (And.intro @v5 (And.intro @e2 (And.intro @hgp (And.intro @hrl (And.intro @hri (And.intro @hg2 (And.intro @hpl (And.intro @f1 (And.intro @hx @f3))))))))))))))))))))))))))))))))))
          refine autoA ?_
          repeat' (first | (refine WK.draw (ops := #[_, _, _, _, _, _, _, _, _, _, _, _, _, _]) [dq 0 0, dq 0 1, dq 0 0, dq 0 0, dq 0 1, dq 0 0, dq 0 1, dq 0 1, dq 0 1, dq 0 0, dq 0 1, dq 0 1, dm, dm] mixed (by kernel_rfl) ?_; refine autoA ?_) | (refine WK.draw0 (ops := #[_, _, _, _, _, _, _, _, _]) mixed (by kernel_rfl) ?_; refine autoA ?_) | (refine WK.draw (ops := #[_, _, _, _, _, _, _, _, _, _, _, _, _]) [dq 0 0, dq 0 0, dq 0 0, dq 0 0, dq 0 0, dq 0 1, dq 0 0, dq 0 0, dq 0 0, dq 0 1, dq 0 0, dm, dq 0 0] mixed (by kernel_rfl) ?_; refine autoA ?_))
          try exact trivial
          obtain ⟨σ', hs1, hI', hk'⟩ := htake i ((τ.add (.box [.bool (true), .int .u64 (uB (stepB c.ss a p.lt i (2 ^ b)))])).add (.box [.bool false, .bool true, .int .i64 0, .int .i64 0])) hi (hst i τ _ hIi (fun j hj => by simp only [Sto.get_add, Sto.next_add]; repeat rw [if_neg (by omega)]) (by simp only [Sto.next_add]; omega))
          rw [hnx] at hs1
          simp only [encPl_eq, Pl.free, zc0] at hs1
          have hK : Kept m σ σ' := hkk.trans (((Kept.add m τ _).trans (Kept.add m _ _)).trans hk')
          refine callK_yield hs1 rfl (by simp only [go_sem, seval, reduceCtorEq, v0]) (by simp only [go_sem, seval, reduceCtorEq]) ?_
          have H := And.intro @nz_tid (And.intro @nx_tid (And.intro @nz_pb (And.intro @nx_pb (And.intro @nz_sb (And.intro @nx_sb (And.intro @hi1 (And.intro @hi2 (And.intro @v0 (And.intro @v1 (And.intro @v2 (And.intro @v4 @v5)))))))))))
          refine autoA ?_
          repeat' (first | (refine WK.draw (ops := #[_, _, _, _, _, _, _, _, _, _, _, _, _, _]) [dq 0 0, dq 0 1, dq 0 0, dq 0 0, dq 0 1, dq 0 0, dq 0 1, dq 0 1, dq 0 1, dq 0 0, dq 0 1, dq 0 1, dm, dm] mixed (by kernel_rfl) ?_; refine autoA ?_) | (refine WK.draw0 (ops := #[_, _, _, _, _, _, _, _, _]) mixed (by kernel_rfl) ?_; refine autoA ?_) | (refine WK.draw (ops := #[_, _, _, _, _, _, _, _, _, _, _, _, _]) [dq 0 0, dq 0 0, dq 0 0, dq 0 0, dq 0 0, dq 0 1, dq 0 0, dq 0 0, dq 0 0, dq 0 1, dq 0 0, dm, dq 0 0] mixed (by kernel_rfl) ?_; refine autoA ?_))
          try exact trivial
        | true =>
          have hnx : nxP c a b z p i = (lowB x / 2 ^ a, ⟨false, false, lowB x, (tgt (tab c a b) z p.lt p.gl).2⟩) := by unfold nxP; rw [hLt, f1, f2, if_pos ⟨rfl, rfl⟩, hGo]
          have f3 : (x == 0#64) = false := by unfold nz at f2; simpa using f2
          have hsh := shr_nat (lowB x) a hc.a3 (low_in f2).1
          have H := And.intro @nz_tid (And.intro @nx_tid (And.intro @nz_pb (And.intro @nx_pb (And.intro @nz_sb (And.intro @nx_sb (And.intro @plCells_eq (And.intro @stCells_eq (And.intro @hpA (And.intro @hsA (And.intro @htA (And.intro @nz_tid (And.intro @nx_tid (And.intro @nz_pb (And.intro @nx_pb (And.intro @nz_sb (And.intro @nx_sb (And.intro @e1 (And.intro @hin (And.intro @htc (And.intro @hi (And.intro @hi1 (And.intro @v0 (And.intro @v1 (And.intro @v2 (And.intro @v4 (And.intro @v5 (And.intro @e2 (And.intro @hgp (And.intro @hrl (And.intro @hri (And.intro @hg2 (And.intro @hpl (And.intro @f1 (And.intro @hx (And.intro @f3 @hsh)))))))))))))))))))))))))))))))))))
          refine autoA ?_
          repeat' (first | (refine WK.draw (ops := #[_, _, _, _, _, _, _, _, _, _, _, _, _, _]) [dq 0 0, dq 0 1, dq 0 0, dq 0 0, dq 0 1, dq 0 0, dq 0 1, dq 0 1, dq 0 1, dq 0 0, dq 0 1, dq 0 1, dm, dm] mixed (by kernel_rfl) ?_; refine autoA ?_) | (refine WK.draw0 (ops := #[_, _, _, _, _, _, _, _, _]) mixed (by kernel_rfl) ?_; refine autoA ?_) | (refine WK.draw (ops := #[_, _, _, _, _, _, _, _, _, _, _, _, _]) [dq 0 0, dq 0 0, dq 0 0, dq 0 0, dq 0 0, dq 0 1, dq 0 0, dq 0 0, dq 0 0, dq 0 1, dq 0 0, dm, dq 0 0] mixed (by kernel_rfl) ?_; refine autoA ?_))
          try exact trivial
          obtain ⟨σ', hs1, hI', hk'⟩ := htake i ((τ.add (.box [.bool (true), .int .u64 (uB (stepB c.ss a p.lt i (2 ^ b)))])).add (.box [.bool false, .bool false, .int .i64 (lowB x : Nat), .int .i64 (tgt (tab c a b) z p.lt p.gl).2])) hi (hst i τ _ hIi (fun j hj => by simp only [Sto.get_add, Sto.next_add]; repeat rw [if_neg (by omega)]) (by simp only [Sto.next_add]; omega))
          rw [hnx] at hs1
          simp only [encPl_eq, Pl.free, zc0] at hs1
          have hK : Kept m σ σ' := hkk.trans (((Kept.add m τ _).trans (Kept.add m _ _)).trans hk')
          refine callK_yield hs1 rfl (by simp only [go_sem, seval, reduceCtorEq, v0]) (by simp only [go_sem, seval, reduceCtorEq]) ?_
          have H := And.intro @nz_tid (And.intro @nx_tid (And.intro @nz_pb (And.intro @nx_pb (And.intro @nz_sb (And.intro @nx_sb (And.intro @hi1 (And.intro @hi2 (And.intro @v0 (And.intro @v1 (And.intro @v2 (And.intro @v4 @v5)))))))))))
          refine autoA ?_
          repeat' (first | (refine WK.draw (ops := #[_, _, _, _, _, _, _, _, _, _, _, _, _, _]) [dq 0 0, dq 0 1, dq 0 0, dq 0 0, dq 0 1, dq 0 0, dq 0 1, dq 0 1, dq 0 1, dq 0 0, dq 0 1, dq 0 1, dm, dm] mixed (by kernel_rfl) ?_; refine autoA ?_) | (refine WK.draw0 (ops := #[_, _, _, _, _, _, _, _, _]) mixed (by kernel_rfl) ?_; refine autoA ?_) | (refine WK.draw (ops := #[_, _, _, _, _, _, _, _, _, _, _, _, _]) [dq 0 0, dq 0 0, dq 0 0, dq 0 0, dq 0 0, dq 0 1, dq 0 0, dq 0 0, dq 0 0, dq 0 1, dq 0 0, dm, dq 0 0] mixed (by kernel_rfl) ?_; refine autoA ?_))
          try exact trivial
    case done =>
      rintro env τ ⟨_, _, _, _, _, hIi, hkk⟩ _ _
      exact ⟨.inl rfl, hIi, hkk⟩
end
end Go.Sx
