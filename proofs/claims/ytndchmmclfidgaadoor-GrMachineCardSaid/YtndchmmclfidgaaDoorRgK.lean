import Derived.Test.YtndchmmclfidgaaDoorRgJ
import Derived.Test.YtndchmmclfidgaaDoorLgAw
set_option maxRecDepth 100000
set_option maxHeartbeats 4000000
set_option linter.unusedSimpArgs false
set_option linter.unusedVariables false
set_option linter.unnecessarySimpa false
namespace Go.Sx
open Go Go.Lg Go.Proofs
theorem b34 {gl : GL} : Body (C gl).P 34 Tryd.f34 (codeOf Tryd.f34) := ⟨Tryd.func34, by kernel_rfl, by kernel_rfl⟩
theorem bindP_2 (env : Env) (p1 p2 : Tmp) (x1 x2 : AV) : bindP env (#[p1, p2] : Array Tmp).toList [x1, x2] = upd (upd env p1 x1) p2 x2 := (rfl)
section
variable {gl : GL} (har : gl.at' 0 = arityA) (hdb : gl.at' 4 = dbA)
include har hdb
theorem mach_yes (c : Ct) (a b : Nat) (hs : ShrtC c) (hv : validC c = true) (ho : OkC c a b) (hk : keptB c a b (wonB (tab c a b)) = true) : PCall (C gl) 34 [encC c] (.tup [encM (mchG c a b), .int .i64 0]) := by
  have hc : CtOK c a b := ho.v.toCtOK
  have hst := stab_tab hc
  have hin := hc.inn
  have hout := hc.out
  refine pcallX (callX_of b34 (by simp [Tryd.ntmps34]) ?_) (by simp only [AllCl, cl_encC, and_true]) (by simp only [cl_tup, AllCl, cl_int, and_true]; exact cl_encM _)
  have hok := tab_ok hc
  have hval : Ctr (C gl) 33 [encC c] True (.bool (validC c)) := ⟨fun _ => gvalid_ok har c hs⟩
  have htab : ∀ σ, CtrX (C gl) 74 [encC c] [] σ True (.ptr (σ.next + 1) 0) ((σ.add (.box (ctCells c))).add (.box (tbCells (tab c a b)))) := fun σ => ⟨fun _ => tableOf_ok c a b σ hc⟩
  simp only [encC_eq] at hval htab
  have hwon : ∀ σ, CtrX (C gl) 75 [.ptr 3 0] [] σ (σ.get 3 = some (.box (tbCells (tab c a b))) ∧ 3 < σ.next) (.int .u64 (uB (wonB (tab c a b)))) σ := fun σ => ⟨fun h => won_ok 3 (tab c a b) σ hok hst h.1 h.2⟩
  have hkep : ∀ σ, CtrX (C gl) 77 [.ptr 3 0, .int .u64 (uB (wonB (tab c a b)))] [] σ (σ.get 3 = some (.box (tbCells (tab c a b)))) (.bool (keptB (tab c a b).c a b (wonB (tab c a b)))) σ := fun σ => ⟨fun h => kept_ok 3 (tab c a b) a b (wonB (tab c a b)) σ hc h⟩
  have hk' : keptB (tab c a b).c a b (wonB (tab c a b)) = true := hk
  have htn : (tab c a b).js.length < 1000000 := hok.js
  refine W.of ?_
  rw [Tryd.ntmps34]
  simp only [toK, codeOf, Tryd.f34, go_sem, seval, reduceCtorEq]
  have H := And.intro @ct_nz (And.intro @ct_al (And.intro @hv (And.intro @hk' (And.intro @hin @hout))))
  refine autoA ?_
  repeat' (first | (refine WK.drawF (ops := #[_, _, _, _, _, _, _, _, _, _]) [dm, dq 1 3, dm, dq 0 0, dq 2 3, dq 0 0, dm, dm, dm, dm] mixed (by kernel_rfl) ?_; refine autoA ?_) | (refine WK.draw (ops := #[_, _, _, _, _, _]) [dq 0 0, dq 0 0, dq 0 0, dq 0 0, dq 0 0, dm] mixed (by kernel_rfl) ?_; refine autoA ?_) | (refine WK.draw (ops := #[_, _, _, _, _, _, _, _, _, _, _, _]) [dq 0 0, dq 0 0, dq 0 0, dm, dq 1 0, dq 1 0, dq 1 0, dq 1 0, dq 0 0, dm, dm, dm] mixed (by kernel_rfl) ?_; refine autoA ?_) | (refine WK.draw (ops := #[_, _, _, _, _, _, _, _, _, _, _, _, _, _]) [dq 0 0, dq 0 0, dq 0 0, dq 0 0, dm, dq 0 0, dq 1 0, dq 1 0, dq 0 0, dm, dq 0 0, dm, dq 0 0, dm] mixed (by kernel_rfl) ?_; refine autoA ?_))
  try exact trivial
  have hwi : ∀ σ j, CtrX (C gl) 92 [.ptr 3 0, .int .u64 (uB (wonB (tab c a b))), .int .u64 (uB j)] [] σ (σ.get 3 = some (.box (tbCells (tab c a b))) ∧ 3 < σ.next) (.tup [.int .u64 (uB (zY (tab c a b) (wonB (tab c a b)) j)), .list false ((lvL (tab c a b) (wonB (tab c a b)) j).map encLv)]) σ := fun σ j => ⟨fun h => within_ok 3 (tab c a b) (wonB (tab c a b)) j _ _ σ 67 hok h.1 h.2 (by omega) (hst.x j (wonB (tab c a b))) (mL_spec hst (wonB (tab c a b)) j).1⟩
  have hjg : ∀ i (h : i < (tab c a b).js.length), ((tab c a b).js.map encW).getD i .undef = .int .u64 (uB (tab c a b).js[i]) := fun i h => map_getD encW _ i h
  have hjl : ((tab c a b).js.map encW).length = (tab c a b).js.length := List.length_map _
  generalize hT : tab c a b = t at *
  generalize hZ : wonB t = z at *
  refine WK.ownBox0 4 2 1 (by simp only [go_sem, seval, reduceCtorEq]; rfl) (by rfl) ?_
  simp only [go_sem, seval, reduceCtorEq]
  refine rangeA (t.js.length) [1, 2, 3, 4, 5, 40] [] (fun i => []) (fun i => ((((((Sto.none.add (.box (ctCells c))).add (.box [.int .i64 0, .int .i64 0, .list true [], .list true []])).add (.box (ctCells c))).add (.box (tbCells t))).add (.box [.ptr 3 0, .int .u64 (uB z), .own 5 (((t.js.take i).map (lvL t z)).map encLs)])).add (.tok 1 i))) ?_ ?_
  · intro i hi
    have jg := hjg i hi
    have hs : ((t.js.take i).map (lvL t z)).map encLs ++ [.list false ((lvL t z t.js[i]).map encLv)] = ((t.js.take (i + 1)).map (lvL t z)).map encLs := by
      rw [takeM hi, List.map_append]; rfl
    have hln : (((t.js.take i).map (lvL t z)).map encLs).length = i := by simp; omega
    have hoe : OKEs 1 (((t.js.take i).map (lvL t z)).map encLs) = True := eq_true (okes_map fun a => by rw [encLs_eq]; exact ⟨rfl, rfl⟩)
    have H := And.intro @hjl (And.intro @hi (And.intro @jg (And.intro @hs (And.intro @hln @hoe))))
    refine autoA ?_
    repeat' (first | (refine WK.drawF (ops := #[_, _, _, _, _, _, _, _, _, _]) [dm, dq 1 3, dm, dq 0 0, dq 2 3, dq 0 0, dm, dm, dm, dm] mixed (by kernel_rfl) ?_; refine autoA ?_) | (refine WK.draw (ops := #[_, _, _, _, _, _]) [dq 0 0, dq 0 0, dq 0 0, dq 0 0, dq 0 0, dm] mixed (by kernel_rfl) ?_; refine autoA ?_) | (refine WK.draw (ops := #[_, _, _, _, _, _, _, _, _, _, _, _]) [dq 0 0, dq 0 0, dq 0 0, dm, dq 1 0, dq 1 0, dq 1 0, dq 1 0, dq 0 0, dm, dm, dm] mixed (by kernel_rfl) ?_; refine autoA ?_) | (refine WK.draw (ops := #[_, _, _, _, _, _, _, _, _, _, _, _, _, _]) [dq 0 0, dq 0 0, dq 0 0, dq 0 0, dm, dq 0 0, dq 1 0, dq 1 0, dq 0 0, dm, dq 0 0, dm, dq 0 0, dm] mixed (by kernel_rfl) ?_; refine autoA ?_))
    try exact trivial
    exact cutA
  · rw [List.take_length]
    refine WK.lessBox 4 [.ptr 3 0, .int .u64 (uB z), .list false ((t.js.map (lvL t z)).map encLs)] (by simp only [go_sem, seval, reduceCtorEq]; rfl) ?_ ?_
    · exact ⟨.refl _, .refl _, le_own _ _, trivial⟩
    have hkp : KeyOK (C gl) 120 (.agg [.bool false, .bool false, .int .i64 0, .int .i64 0]) = True := keyOK_pl'
    have H := And.intro @hin (And.intro @hout @hkp)
    refine autoA ?_
    repeat' (first | (refine WK.drawF (ops := #[_, _, _, _, _, _, _, _, _, _]) [dm, dq 1 3, dm, dq 0 0, dq 2 3, dq 0 0, dm, dm, dm, dm] mixed (by kernel_rfl) ?_; refine autoA ?_) | (refine WK.draw (ops := #[_, _, _, _, _, _]) [dq 0 0, dq 0 0, dq 0 0, dq 0 0, dq 0 0, dm] mixed (by kernel_rfl) ?_; refine autoA ?_) | (refine WK.draw (ops := #[_, _, _, _, _, _, _, _, _, _, _, _]) [dq 0 0, dq 0 0, dq 0 0, dm, dq 1 0, dq 1 0, dq 1 0, dq 1 0, dq 0 0, dm, dm, dm] mixed (by kernel_rfl) ?_; refine autoA ?_) | (refine WK.draw (ops := #[_, _, _, _, _, _, _, _, _, _, _, _, _, _]) [dq 0 0, dq 0 0, dq 0 0, dq 0 0, dm, dq 0 0, dq 1 0, dq 1 0, dq 0 0, dm, dq 0 0, dm, dq 0 0, dm] mixed (by kernel_rfl) ?_; refine autoA ?_))
    try exact trivial
    refine WK.ownBox 9 0 4 (by simp only [go_sem, seval, reduceCtorEq]; rfl) (by rfl) ?_
    refine WK.ownBox0 10 2 1 (by simp only [go_sem, seval, reduceCtorEq]; rfl) (by rfl) ?_
    refine WK.ownBox0 10 3 1 (by simp only [go_sem, seval, reduceCtorEq]; rfl) (by rfl) ?_
    simp only [go_sem, seval, reduceCtorEq]
    have hz0 : OutI c a b z [.begin] [] [] := out_start
    refine WK.block ?_
    refine WK.loopX [2, 5, 11, 12, 13] [14] (fun s : Nat × List Pl × List (List Nat) × List (List Nat) => [.int .i64 (s.2.2.1.length : Nat)]) (fun s => mS c t z (t.js.map (lvL t z)) a b s.2.1 s.2.2.1 s.2.2.2)
      (fun s => OutI c a b z s.2.1 s.2.2.1 s.2.2.2 ∧ s.2.2.1.length + s.1 = 1001 ∧ goG c a b z s.1 s.2 = finG c a b z) (fun s => s.1) (1001, [.begin], [], []) (by decide) ⟨hz0, rfl, rfl⟩ (by simp only [go_sem, seval, reduceCtorEq]) rfl ?_
    rintro ⟨n, ps, A, X⟩ ⟨hI, hn, hgo⟩
    simp only at hI hn hgo ⊢
    have hfw := out_few ho hI
    have hal := hI.al
    have hxl := hI.xl
    have hpl : (ps.map encPl).length = ps.length := List.length_map _
    unfold mS
    by_cases hlt : A.length < ps.length
    · have dlt : decide ((A.length : Int) < (ps.length : Int)) = true := decide_eq_true (by omega)
      obtain ⟨p, hpe⟩ : ∃ p, ps[A.length]? = some p := ⟨_, List.getElem?_eq_getElem hlt⟩
      have hpg : (ps.map encPl).getD A.length .undef = encPl p := by rw [List.getD_eq_getElem?_getD, List.getElem?_map, hpe]; rfl
      have hnx : ∀ (σ : Sto) (p : Pl), CtrX (C gl) 93 [.agg (stCells 3 z (t.js.map (lvL t z))), encPl p] [] σ (3 < σ.next) (.fn 151 [.ptr (σ.next + 1) 0, .ptr σ.next 0]) ((σ.add (.box (stCells 3 z (t.js.map (lvL t z))))).add (.box (plCells p))) := fun σ p => ⟨fun h => next_ok 3 z (t.js.map (lvL t z)) p σ h⟩
      simp only [stCells_eq, encPl_eq, plCells_eq] at hnx
      have dll : (A.length : Int) < (ps.length : Int) := by omega
      have H := And.intro @hpl (And.intro @dlt (And.intro @hlt (And.intro @hpg @encPl_eq)))
      refine autoA ?_
      repeat' (first | (refine WK.drawF (ops := #[_, _, _, _, _, _, _, _, _, _]) [dm, dq 1 3, dm, dq 0 0, dq 2 3, dq 0 0, dm, dm, dm, dm] mixed (by kernel_rfl) ?_; refine autoA ?_) | (refine WK.draw (ops := #[_, _, _, _, _, _]) [dq 0 0, dq 0 0, dq 0 0, dq 0 0, dq 0 0, dm] mixed (by kernel_rfl) ?_; refine autoA ?_) | (refine WK.draw (ops := #[_, _, _, _, _, _, _, _, _, _, _, _]) [dq 0 0, dq 0 0, dq 0 0, dm, dq 1 0, dq 1 0, dq 1 0, dq 1 0, dq 0 0, dm, dm, dm] mixed (by kernel_rfl) ?_; refine autoA ?_) | (refine WK.draw (ops := #[_, _, _, _, _, _, _, _, _, _, _, _, _, _]) [dq 0 0, dq 0 0, dq 0 0, dq 0 0, dm, dq 0 0, dq 1 0, dq 1 0, dq 0 0, dm, dq 0 0, dm, dq 0 0, dm] mixed (by kernel_rfl) ?_; refine autoA ?_))
      try exact trivial
      refine WK.ownBox0 14 0 1 (by simp only [go_sem, seval, reduceCtorEq]; rfl) (by rfl) ?_
      refine WK.ownBox0 15 0 1 (by simp only [go_sem, seval, reduceCtorEq]; rfl) (by rfl) ?_
      simp only [go_sem, seval, reduceCtorEq]
      have hokp : PlOK (2 ^ (a + b)) t.js.length p := hT ▸ hI.ok p (pl_mem hpe)
      have hpp : p.bg = false → p.fr = false → p.lt < 2 ^ (a + b) ∧ ∃ h : p.gl < (tab c a b).js.length, ∃ h2 : p.gl < (t.js.map (lvL t z)).length, (t.js.map (lvL t z))[p.gl] = (List.range (mL (tab c a b) z (tab c a b).js[p.gl] + 1)).map (lvE (tab c a b) z (tab c a b).js[p.gl]) ∧ mL (tab c a b) z (tab c a b).js[p.gl] < 67 := by
        subst hT
        intro e1 e2
        rcases hokp with rfl | rfl | ⟨l, g, rfl, h1, h2⟩
        · cases e1
        · cases e2
        · refine ⟨h1, h2, by rw [List.length_map]; exact h2, ?_, (mL_spec hst z _).2.2⟩
          rw [List.getElem_map]; rfl
      have hr0 : ∀ k, k ≤ 2 ^ a → RdI c a b z p ps k (rdG c a b z p ps k) := rd_inv ho (hI.ok p (pl_mem hpe)) hI.nd hI.ok
      have hin2 : (rdG c a b z p ps (2 ^ a)).2.1.length = 2 ^ a := by rw [(hr0 _ (Nat.le_refl _)).an]; simp
      have p8 := pow2_le 3 hc.a3
      have hfew : ∀ l : List Pl, l.Nodup → (∀ q ∈ l, PlOK (2 ^ (a + b)) (tab c a b).js.length q) → l.length ≤ 1000 := fun l h1 h2 => few_len ho h1 h2
      refine WK.forNext hdb [2, 5, 11, 12, 13, 14, 15, 16] c a b hc z (t.js.map (lvL t z)) p 20 3 17 16 hpp (fun k => iS c t z (t.js.map (lvL t z)) a b A X p (rdG c a b z p ps k)) (by simp only [go_sem, seval, reduceCtorEq]) (by omega) (by simp only [go_sem, seval, reduceCtorEq]) rfl rfl (fun k => rfl) (fun k => ⟨rfl, rfl, by rw [hT]; rfl⟩) ?_ ?_ ?_
      · show Cut (iS c t z (t.js.map (lvL t z)) a b A X p (ps, [], [])) _ _
        exact cut_iS _ _
      · intro L k σ' hk hm hag hl
        have hrk := hr0 k (by omega)
        have hnk : (rdG c a b z p ps (k + 1)) = stG c a b z p (rdG c a b z p ps k) k := rfl
        have hfk := few_pl hrk.nd hrk.ok
        show WK _ _ _ _ (fun e env1 σ1 => e = .normal ∧ σ1.get 20 = some (.loop L .ready none) ∧ WK _ _ _ _ (bdQ L 20 (iS c t z (t.js.map (lvL t z)) a b A X p (rdG c a b z p ps (k + 1))) σ') env1 (σ1.set 20 (.loop L .busy none))) _ σ'
        rw [hnk]
        have hl1 : (rdG c a b z p ps k).2.1.length = k := by rw [hrk.an]; simp
        have hl2 := hrk.nl
        have hfl : (rdG c a b z p ps k).1.length ≤ 1000 := hfew _ hrk.nd hrk.ok
        generalize hsk : rdG c a b z p ps k = s at *
        obtain ⟨qs, an, nx⟩ := s
        simp only at hl1 hl2 hfl
        have ha7 : σ'.get 7 = some (.mp (mapF qs 0)) := (hag 7 (by omega)).trans rfl
        have ha8 : σ'.get 8 = some (.box [.map 7]) := (hag 8 (by omega)).trans rfl
        have ha9 : σ'.get 9 = some (.box [.own 11 (qs.map encPl)]) := (hag 9 (by omega)).trans rfl
        have ha11 : σ'.get 11 = some (.tok 4 qs.length) := (hag 11 (by omega)).trans rfl
        have ha14 : σ'.get 14 = some (.box [.own 18 (an.map fun k : Nat => .int .i64 (k : Int))]) := (hag 14 (by omega)).trans rfl
        have ha15 : σ'.get 15 = some (.box [.own 19 (nx.map fun k : Nat => .int .i64 (k : Int))]) := (hag 15 (by omega)).trans rfl
        have ha18 : σ'.get 18 = some (.tok 1 an.length) := (hag 18 (by omega)).trans rfl
        have ha19 : σ'.get 19 = some (.tok 1 nx.length) := (hag 19 (by omega)).trans rfl
        have n7 : (7 = σ'.next) = False := by simp; omega
        have m7 : ∀ j, (7 = σ'.next + j) = False := fun j => by simp; omega
        have n8 : (8 = σ'.next) = False := by simp; omega
        have m8 : ∀ j, (8 = σ'.next + j) = False := fun j => by simp; omega
        have n9 : (9 = σ'.next) = False := by simp; omega
        have m9 : ∀ j, (9 = σ'.next + j) = False := fun j => by simp; omega
        have n11 : (11 = σ'.next) = False := by simp; omega
        have m11 : ∀ j, (11 = σ'.next + j) = False := fun j => by simp; omega
        have n14 : (14 = σ'.next) = False := by simp; omega
        have m14 : ∀ j, (14 = σ'.next + j) = False := fun j => by simp; omega
        have n15 : (15 = σ'.next) = False := by simp; omega
        have m15 : ∀ j, (15 = σ'.next + j) = False := fun j => by simp; omega
        have n18 : (18 = σ'.next) = False := by simp; omega
        have m18 : ∀ j, (18 = σ'.next + j) = False := fun j => by simp; omega
        have n19 : (19 = σ'.next) = False := by simp; omega
        have m19 : ∀ j, (19 = σ'.next + j) = False := fun j => by simp; omega
        have n20 : (20 = σ'.next) = False := by simp; omega
        have m20 : ∀ j, (20 = σ'.next + j) = False := fun j => by simp; omega
        generalize hnx' : nxP c a b z p k = oq at *
        obtain ⟨o, q⟩ := oq
        have hms := mapF_shp qs 0
        have hoa := okes_nats an
        have hox := okes_nats nx
        have hoq := okes_encPl qs
        have hla : (an.map fun k : Nat => AV.int .i64 (k : Int)).length = an.length := List.length_map _
        have hlx : (nx.map fun k : Nat => AV.int .i64 (k : Int)).length = nx.length := List.length_map _
        have hlq : (qs.map encPl).length = qs.length := List.length_map _
        have hsa : (an.map fun k : Nat => AV.int .i64 (k : Int)) ++ [.int .i64 (o : Int)] = (an ++ [o]).map fun k : Nat => AV.int .i64 (k : Int) := by rw [List.map_append]; rfl
        have hmg := mapF_get q qs 0
        rw [encPl_eq] at hmg
        unfold stG
        rw [hnx', bindP_2]
        cases e : fnd qs q with
        | some j =>
          rw [e] at hmg
          have hsx : (nx.map fun k : Nat => AV.int .i64 (k : Int)) ++ [.int .i64 (j : Int)] = (nx ++ [j]).map fun k : Nat => AV.int .i64 (k : Int) := by rw [List.map_append]; rfl
          simp only [Option.map_some, Nat.zero_add] at hmg
          have H := And.intro @hl (And.intro @ha7 (And.intro @ha8 (And.intro @ha9 (And.intro @ha11 (And.intro @ha14 (And.intro @ha15 (And.intro @ha18 (And.intro @ha19 (And.intro @n7 (And.intro @m7 (And.intro @n8 (And.intro @m8 (And.intro @n9 (And.intro @m9 (And.intro @n11 (And.intro @m11 (And.intro @n14 (And.intro @m14 (And.intro @n15 (And.intro @m15 (And.intro @n18 (And.intro @m18 (And.intro @n19 (And.intro @m19 (And.intro @n20 (And.intro @m20 (And.intro @hkp (And.intro @hms (And.intro @hoa (And.intro @hox (And.intro @hoq (And.intro @hla (And.intro @hlx (And.intro @hlq (And.intro @hsa (And.intro @encPl_eq (And.intro @hmg @hsx)))))))))))))))))))))))))))))))))))))
          refine autoA ?_
          repeat' (first | (refine WK.drawF (ops := #[_, _, _, _, _, _, _, _, _, _]) [dm, dq 1 3, dm, dq 0 0, dq 2 3, dq 0 0, dm, dm, dm, dm] mixed (by kernel_rfl) ?_; refine autoA ?_) | (refine WK.draw (ops := #[_, _, _, _, _, _]) [dq 0 0, dq 0 0, dq 0 0, dq 0 0, dq 0 0, dm] mixed (by kernel_rfl) ?_; refine autoA ?_) | (refine WK.draw (ops := #[_, _, _, _, _, _, _, _, _, _, _, _]) [dq 0 0, dq 0 0, dq 0 0, dm, dq 1 0, dq 1 0, dq 1 0, dq 1 0, dq 0 0, dm, dm, dm] mixed (by kernel_rfl) ?_; refine autoA ?_) | (refine WK.draw (ops := #[_, _, _, _, _, _, _, _, _, _, _, _, _, _]) [dq 0 0, dq 0 0, dq 0 0, dq 0 0, dm, dq 0 0, dq 1 0, dq 1 0, dq 0 0, dm, dq 0 0, dm, dq 0 0, dm] mixed (by kernel_rfl) ?_; refine autoA ?_))
          try exact trivial
          refine ⟨⟨none, by simp only [Sto.get_add, Sto.get_set, Sto.next_set, n20]; simp⟩, by simp only [Sto.next_add, Sto.next_set]; omega, fun i hi => ?_, ⟨fun i h1 h2 => ?_, by simp only [Sto.next_add, Sto.next_set]; omega⟩⟩
          · rw [iS_get (qs, an, nx) _ i hi, ← hag i hi]
            simp only [Sto.get_add, Sto.get_set, Sto.next_set, List.length_append, List.length_cons, List.length_nil]
            have hne : ¬ i = σ'.next := by omega
            have hne2 : ¬ i = 20 := by omega
            rw [if_neg hne]
            repeat' split
            all_goals first | rfl | omega | (subst_vars; omega) | (exfalso; omega) | (simp_all; done)
          · simp only [Sto.get_add, Sto.get_set, Sto.next_set]
            repeat rw [if_neg (by omega)]
        | none =>
          rw [e] at hmg
          simp only [Option.map_none] at hmg
          have hsx : (nx.map fun k : Nat => AV.int .i64 (k : Int)) ++ [.int .i64 (qs.length : Int)] = (nx ++ [qs.length]).map fun k : Nat => AV.int .i64 (k : Int) := by rw [List.map_append]; rfl
          have hmp := mapF_put 0 e
          rw [Nat.zero_add, encPl_eq] at hmp
          have hmg2 := mapF_get q (qs ++ [q]) 0
          rw [fnd_snoc e, encPl_eq] at hmg2
          simp only [Option.map_some, Nat.zero_add] at hmg2
          have hms2 := mapF_shp (qs ++ [q]) 0
          have hin0 : (none : Option AV).isSome = false := rfl
          have hgd0 : ∀ d : AV, (none : Option AV).getD d = d := fun _ => rfl
          have hsq : qs.map encPl ++ [.agg [.bool q.bg, .bool q.fr, .int .i64 (q.lt : Nat), .int .i64 (q.gl : Nat)]] = (qs ++ [q]).map encPl := by rw [List.map_append]; rfl
          have H := And.intro @hl (And.intro @ha7 (And.intro @ha8 (And.intro @ha9 (And.intro @ha11 (And.intro @ha14 (And.intro @ha15 (And.intro @ha18 (And.intro @ha19 (And.intro @n7 (And.intro @m7 (And.intro @n8 (And.intro @m8 (And.intro @n9 (And.intro @m9 (And.intro @n11 (And.intro @m11 (And.intro @n14 (And.intro @m14 (And.intro @n15 (And.intro @m15 (And.intro @n18 (And.intro @m18 (And.intro @n19 (And.intro @m19 (And.intro @n20 (And.intro @m20 (And.intro @hkp (And.intro @hms (And.intro @hoa (And.intro @hox (And.intro @hoq (And.intro @hla (And.intro @hlx (And.intro @hlq (And.intro @hsa (And.intro @encPl_eq (And.intro @hmg (And.intro @hsx (And.intro @hmp (And.intro @hmg2 (And.intro @hms2 (And.intro @hsq (And.intro @hin0 @hgd0)))))))))))))))))))))))))))))))))))))))))))
          refine autoA ?_
          repeat' (first | (refine WK.drawF (ops := #[_, _, _, _, _, _, _, _, _, _]) [dm, dq 1 3, dm, dq 0 0, dq 2 3, dq 0 0, dm, dm, dm, dm] mixed (by kernel_rfl) ?_; refine autoA ?_) | (refine WK.draw (ops := #[_, _, _, _, _, _]) [dq 0 0, dq 0 0, dq 0 0, dq 0 0, dq 0 0, dm] mixed (by kernel_rfl) ?_; refine autoA ?_) | (refine WK.draw (ops := #[_, _, _, _, _, _, _, _, _, _, _, _]) [dq 0 0, dq 0 0, dq 0 0, dm, dq 1 0, dq 1 0, dq 1 0, dq 1 0, dq 0 0, dm, dm, dm] mixed (by kernel_rfl) ?_; refine autoA ?_) | (refine WK.draw (ops := #[_, _, _, _, _, _, _, _, _, _, _, _, _, _]) [dq 0 0, dq 0 0, dq 0 0, dq 0 0, dm, dq 0 0, dq 1 0, dq 1 0, dq 0 0, dm, dq 0 0, dm, dq 0 0, dm] mixed (by kernel_rfl) ?_; refine autoA ?_))
          try exact trivial
          refine ⟨⟨none, by simp only [Sto.get_add, Sto.get_set, Sto.next_set, n20]; simp⟩, by simp only [Sto.next_add, Sto.next_set]; omega, fun i hi => ?_, ⟨fun i h1 h2 => ?_, by simp only [Sto.next_add, Sto.next_set]; omega⟩⟩
          · rw [iS_get (qs, an, nx) _ i hi, ← hag i hi]
            simp only [Sto.get_add, Sto.get_set, Sto.next_set, List.length_append, List.length_cons, List.length_nil]
            have hne : ¬ i = σ'.next := by omega
            have hne2 : ¬ i = 20 := by omega
            rw [if_neg hne]
            repeat' split
            all_goals first | rfl | omega | (subst_vars; omega) | (exfalso; omega) | (simp_all; done)
          · simp only [Sto.get_add, Sto.get_set, Sto.next_set]
            repeat rw [if_neg (by omega)]
      · have hro := hr0 (2 ^ a) (Nat.le_refl _)
        have hos := out_step ho hI hpe
        obtain ⟨n', rfl⟩ : ∃ n', n = n' + 1 := ⟨n - 1, by omega⟩
        have hgo2 : goG c a b z n' ((rdG c a b z p ps (2 ^ a)).1, A ++ [(rdG c a b z p ps (2 ^ a)).2.1], X ++ [(rdG c a b z p ps (2 ^ a)).2.2]) = finG c a b z := by
          rw [← hgo]
          show _ = (match ps[A.length]? with | none => _ | some p => _)
          rw [hpe]
        have hnx2 : (rdG c a b z p ps (2 ^ a)).2.2.length = 2 ^ a := hro.nl
        generalize rdG c a b z p ps (2 ^ a) = s at *
        obtain ⟨qs, an, nx⟩ := s
        simp only at hos hgo2 hin2 hnx2 ⊢
        unfold iS mS
        refine WK.lessBox 14 (cs := [.own 18 (an.map fun k : Nat => .int .i64 (k : Int))]) [.list false (an.map fun k : Nat => .int .i64 (k : Int))] (by simp only [go_sem, seval, reduceCtorEq]) ⟨le_own _ _, trivial⟩ ?_
        refine WK.lessBox 15 (cs := [.own 19 (nx.map fun k : Nat => .int .i64 (k : Int))]) [.list false (nx.map fun k : Nat => .int .i64 (k : Int))] (by simp only [go_sem, seval, reduceCtorEq]) ⟨le_own _ _, trivial⟩ ?_
        have hA1 : A.map natL ++ [.list false (an.map fun k : Nat => .int .i64 (k : Int))] = (A ++ [an]).map natL := by rw [List.map_append]; rfl
        have hX1 : X.map natL ++ [.list false (nx.map fun k : Nat => .int .i64 (k : Int))] = (X ++ [nx]).map natL := by rw [List.map_append]; rfl
        have hAl : (A.map natL).length = A.length := List.length_map _
        have hXl : (X.map natL).length = X.length := List.length_map _
        have hAo := okes_natL A
        have hXo := okes_natL X
        have hw : IntKind.i64.wrap ((A.length : Int) + 1) = ((A.length + 1 : Nat) : Int) := by rw [wrap_lt (by omega) (by omega)]; omega
        have hAb : A.length < 1001 := by omega
        have hXb : X.length < 1001 := by omega
        simp only [go_sem, seval, reduceCtorEq]
        have H := And.intro @hA1 (And.intro @hX1 (And.intro @hAl (And.intro @hXl (And.intro @hAo (And.intro @hXo @hw)))))
        refine autoA ?_
        repeat' (first | (refine WK.drawF (ops := #[_, _, _, _, _, _, _, _, _, _]) [dm, dq 1 3, dm, dq 0 0, dq 2 3, dq 0 0, dm, dm, dm, dm] mixed (by kernel_rfl) ?_; refine autoA ?_) | (refine WK.draw (ops := #[_, _, _, _, _, _]) [dq 0 0, dq 0 0, dq 0 0, dq 0 0, dq 0 0, dm] mixed (by kernel_rfl) ?_; refine autoA ?_) | (refine WK.draw (ops := #[_, _, _, _, _, _, _, _, _, _, _, _]) [dq 0 0, dq 0 0, dq 0 0, dm, dq 1 0, dq 1 0, dq 1 0, dq 1 0, dq 0 0, dm, dm, dm] mixed (by kernel_rfl) ?_; refine autoA ?_) | (refine WK.draw (ops := #[_, _, _, _, _, _, _, _, _, _, _, _, _, _]) [dq 0 0, dq 0 0, dq 0 0, dq 0 0, dm, dq 0 0, dq 1 0, dq 1 0, dq 0 0, dm, dq 0 0, dm, dq 0 0, dm] mixed (by kernel_rfl) ?_; refine autoA ?_))
        try exact trivial
        refine ⟨(n', qs, A ++ [an], X ++ [nx]), ⟨hos, by simp; omega, hgo2⟩, Nat.lt_succ_self _, by simp, ?_⟩
        show Cut (mS c t z (t.js.map (lvL t z)) a b ps A X) _ (mS c t z (t.js.map (lvL t z)) a b qs (A ++ [an]) (X ++ [nx]))
        refine cut_mS (show 14 ≤ 20 by decide) fun i hi => ?_
        have e1 : (A ++ [an]).length = A.length + 1 := by simp
        have e2 : (X ++ [nx]).length = X.length + 1 := by simp
        unfold mS
        rw [e1, e2]
        exact match i, hi with
        | 0, _ => rfl
        | 1, _ => rfl
        | 2, _ => rfl
        | 3, _ => rfl
        | 4, _ => rfl
        | 5, _ => rfl
        | 6, _ => rfl
        | 7, _ => rfl
        | 8, _ => rfl
        | 9, _ => rfl
        | 10, _ => rfl
        | 11, _ => rfl
        | 12, _ => rfl
        | 13, _ => rfl
        | i + 14, hi => absurd hi (by omega)
    · have hfin : finG c a b z = (ps, A, X) := by
        rw [← hgo]
        cases n with
        | zero => rfl
        | succ n =>
          show (match ps[A.length]? with | none => _ | some p => _) = _
          rw [List.getElem?_eq_none (by omega)]
      have hmc : encM (mchG c a b) = .agg [.int .i64 a, .int .i64 b, .list false (A.map natL), .list false (X.map natL)] := by
        unfold mchG
        rw [hT, hZ, hfin]
        show AV.agg [.int .i64 a, .int .i64 b, .list false ((A.map fun r => r.map fun k : Nat => (k : Int)).map intL), .list false ((X.map fun r => r.map fun k : Nat => (k : Int)).map intL)] = _
        rw [natL_int, natL_int]
      have dlt : ((A.length : Int) < (ps.length : Int)) = False := by simp; omega
      refine WK.lessBox 10 (cs := [.int .i64 a, .int .i64 b, .own 12 (A.map natL), .own 13 (X.map natL)]) [.int .i64 a, .int .i64 b, .list false (A.map natL), .list false (X.map natL)] (by simp only [go_sem, seval, reduceCtorEq]) ⟨.refl _, .refl _, le_own _ _, le_own _ _, trivial⟩ ?_
      simp only [go_sem, seval, reduceCtorEq]
      have H := And.intro @hpl (And.intro @dlt @hmc)
      refine autoA ?_
      repeat' (first | (refine WK.drawF (ops := #[_, _, _, _, _, _, _, _, _, _]) [dm, dq 1 3, dm, dq 0 0, dq 2 3, dq 0 0, dm, dm, dm, dm] mixed (by kernel_rfl) ?_; refine autoA ?_) | (refine WK.draw (ops := #[_, _, _, _, _, _]) [dq 0 0, dq 0 0, dq 0 0, dq 0 0, dq 0 0, dm] mixed (by kernel_rfl) ?_; refine autoA ?_) | (refine WK.draw (ops := #[_, _, _, _, _, _, _, _, _, _, _, _]) [dq 0 0, dq 0 0, dq 0 0, dm, dq 1 0, dq 1 0, dq 1 0, dq 1 0, dq 0 0, dm, dm, dm] mixed (by kernel_rfl) ?_; refine autoA ?_) | (refine WK.draw (ops := #[_, _, _, _, _, _, _, _, _, _, _, _, _, _]) [dq 0 0, dq 0 0, dq 0 0, dq 0 0, dm, dq 0 0, dq 1 0, dq 1 0, dq 0 0, dm, dq 0 0, dm, dq 0 0, dm] mixed (by kernel_rfl) ?_; refine autoA ?_))
      try exact trivial
      exact cut_none _
end
end Go.Sx
