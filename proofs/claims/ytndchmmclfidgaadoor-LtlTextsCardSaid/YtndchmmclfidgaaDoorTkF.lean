import Derived.Test.YtndchmmclfidgaaDoorTkE
import Derived.Test.YtndchmmclfidgaaDoorGvA
import Derived.Test.YtndchmmclfidgaaDoorLgAw
set_option maxRecDepth 100000
set_option linter.unusedSimpArgs false
set_option linter.unusedVariables false
set_option linter.unnecessarySimpa false
namespace Go.Lg
theorem CallX.own0 {C : Cx} {f : FuncId} {rest : List AV} {σ σ1 : Sto} {r : AV} (es : Nat) (h : CallX C f (.own σ.next [] :: rest) (σ.add (.tok es 0)) r σ1) : CallX C f (.list true [] :: rest) σ r σ1 := by
  refine ⟨h.here, fun w0 G w V hi hV hrep => ?_⟩
  have hlt : 0 < V.size := by rw [hV]; exact Nat.succ_pos _
  have h0 := hrep 0 _ V[0] rfl (Array.getElem?_eq_getElem hlt)
  obtain ⟨G', k1, k2, k3, k4⟩ := own_new hi h0 es
  refine (h.call w0 G' w V k3 hV fun i x v hx hv => ?_).mono ?_
  · cases i with
    | zero =>
      simp only [List.getElem?_cons_zero, Option.some.injEq] at hx
      subst hx
      rw [Array.getElem?_eq_getElem hlt] at hv
      cases hv
      exact k2
    | succ i => exact (hrep (i + 1) x v hx hv).mono k1
  · rintro e w' ⟨G2, v, g1, g2, g3, g4⟩
    exact ⟨G2, v, g1, g2, g3, k4.trans g4⟩
theorem appK_str {C : Cx} {nt : Nat} {d : Option Nat} {rs : List RO} {K : Env → Sto → Prop} {env : Env} {σ : Sto} {s x : Operand} {t t2 : TypeId} {ei : TyI} {id es n : Nat} {xs : List AV} {b : ByteArray}
    (hs : slE C t = some ei) (hv : ev C nt env s = .own id xs) (hg : σ.get id = some (.tok es n)) (he : es = ei.size) (hn : n = xs.length) (hok : OKEs es xs) (hx : ev C nt env x = .str b) (ht2 : isStrT C t2 = true) (h1 : ei.size = 1)
    (hz : ei.zero.cells.size = ei.size) (hb : (n + (bytesAV b).length) * ei.bytes ≤ 140737488355328) (hb2 : n + (bytesAV b).length ≤ 9223372036854775807)
    (hk : wpr C nt rs K (putA env d (.own id (xs ++ bytesAV b))) (σ.set id (.tok es (n + (bytesAV b).length)))) : appK C nt d #[s, x] #[t, t2] rs K env σ := by
  subst he
  have hsrc : srcA C σ t2 ei.size (ev C nt env x) = (isStrT C t2 = true ∧ ei.size = 1, bytesAV b) := by rw [hx]; rfl
  have e : aop C (ev C nt env) σ (.call ⟨.builtin .append, #[s, x], #[t, t2]⟩) = appA C σ t2 ei (ev C nt env s) (ev C nt env x) := by
    show (match slE C t with | some ei => appA C σ t2 ei (ev C nt env s) (ev C nt env x) | none => bad σ) = _
    rw [hs]
  refine appK_aop ?_
  rw [e, hv]
  simp only [appA, hg, hsrc]
  exact ⟨⟨⟨ht2, h1⟩, hn, trivial, fun x hx => (hok x hx).1, fun x hx => (hok x hx).2, hz, by rw [← hn]; exact hb, by rw [← hn]; exact hb2⟩, by rw [← hn] at *; exact hk⟩
theorem appD_str {C : Cx} {nt : Nat} {d : Option Nat} {rs : List (RO × DF)} {hist : List Sto} {ob : Obl} {K : Env → Sto → Prop} {env : Env} {σ : Sto} {s x : Operand} {t t2 : TypeId} {ei : TyI} {id es n : Nat} {xs : List AV} {b : ByteArray}
    (hs : slE C t = some ei) (hv : ev C nt env s = .own id xs) (hg : σ.get id = some (.tok es n)) (he : es = ei.size) (hn : n = xs.length) (hok : OKEs es xs) (hx : ev C nt env x = .str b) (ht2 : isStrT C t2 = true) (h1 : ei.size = 1)
    (hz : ei.zero.cells.size = ei.size) (hb : (n + (bytesAV b).length) * ei.bytes ≤ 140737488355328) (hb2 : n + (bytesAV b).length ≤ 9223372036854775807)
    (hk : oblOK (σ.set id (.tok es (n + (bytesAV b).length))) ob ∧ wpD C nt K rs (σ :: hist) (oblDec ob) (putA env d (.own id (xs ++ bytesAV b))) (σ.set id (.tok es (n + (bytesAV b).length)))) : appD C nt d #[s, x] #[t, t2] rs hist ob K env σ := by
  subst he
  have hsrc : srcA C σ t2 ei.size (ev C nt env x) = (isStrT C t2 = true ∧ ei.size = 1, bytesAV b) := by rw [hx]; rfl
  have e : aop C (ev C nt env) σ (.call ⟨.builtin .append, #[s, x], #[t, t2]⟩) = appA C σ t2 ei (ev C nt env s) (ev C nt env x) := by
    show (match slE C t with | some ei => appA C σ t2 ei (ev C nt env s) (ev C nt env x) | none => bad σ) = _
    rw [hs]
  refine appD_aop ?_
  rw [e, hv]
  simp only [appA, hg, hsrc]
  exact ⟨⟨⟨ht2, h1⟩, hn, trivial, fun x hx => (hok x hx).1, fun x hx => (hok x hx).2, hz, by rw [← hn]; exact hb, by rw [← hn]; exact hb2⟩, hk.1, hk.2⟩
theorem u8L_a32 (a : Bs) : u8L a ++ [AV.int .u8 32] = u8L (a ++ [32]) := by rw [← u8L_app]; rfl
theorem u8L_a40 (a : Bs) : u8L a ++ [AV.int .u8 40] = u8L (a ++ [40]) := by rw [← u8L_app]; rfl
theorem u8L_a41 (a : Bs) : u8L a ++ [AV.int .u8 41] = u8L (a ++ [41]) := by rw [← u8L_app]; rfl
attribute [go_sem] u8L_app u8L_a32 u8L_a40 u8L_a41
end Go.Lg
namespace Go.Sx
open Go Go.Lg Go.Proofs
theorem b102 {gl : GL} : Body (C gl).P 102 Tryd.f102 (codeOf Tryd.f102) := ⟨Tryd.func102, by kernel_rfl, by kernel_rfl⟩
theorem b168 {gl : GL} : Body (C gl).P 168 Tryd.f168 (codeOf Tryd.f168) := ⟨Tryd.func168, by kernel_rfl, by kernel_rfl⟩
theorem b39 {gl : GL} : Body (C gl).P 39 Tryd.f39 (codeOf Tryd.f39) := ⟨Tryd.func39, by kernel_rfl, by kernel_rfl⟩

/-! ## What is written -/
def signAt (o : Int) : Bs := signsL.getD o.toNat []
def arAt (o : Int) : Int := arityL.getD o.toNat 0
def stAt (o : Int) : Int := strengthL.getD o.toNat 0
def riAt (o : Int) : Bool := rightL.getD o.toNat false
def brk (b : Bool) (s : Bs) : Bs := if b then [40] ++ s ++ [41] else s
def wrC (ns : List Bs) (o v : Int) (cs : List (Int × Bs)) : Bs :=
  if arAt o == 0 then (if o == 2 then ns.getD v.toNat [] else signAt o)
  else if arAt o == 1 then (signAt o ++ if o == 3 then [] else [32]) ++ (match cs with | (p, s) :: _ => brk (arAt p == 2) s | _ => [])
  else match cs with
    | (p, s) :: (q, t) :: _ => brk (decide (stAt p < stAt o) || ((stAt p == stAt o) && riAt o)) s ++ ([32] ++ signAt o ++ [32]) ++ brk (decide (stAt q < stAt o) || ((stAt q == stAt o) && !riAt o)) t
    | _ => []
mutual
def wrS (ns : List Bs) : Fm → Bs
  | .mk o v l => wrC ns o v (wrL ns l)
def wrL (ns : List Bs) : List Fm → List (Int × Bs)
  | [] => []
  | f :: l => (f.op, wrS ns f) :: wrL ns l
end
section
variable {gl : GL}
theorem u8t138 : isU8T (C gl) 138 = true := by kernel_rfl
attribute [go_sem] u8t138
def WrOK (gl : GL) (ns : List Bs) (f : Fm) : Prop := ∀ (id : Nat) (xs : Bs) (σ : Sto), σ.get id = some (.tok 1 xs.length) → id < σ.next → xs.length + (wrS ns f).length < 1000000 →
  CallX (C gl) 102 [.own id (u8L xs), .list false (ns.map encT), encF f] σ (.own id (u8L (xs ++ wrS ns f))) (σ.set id (.tok 1 (xs.length + (wrS ns f).length)))
theorem inner_ok (ns : List Bs) (g : Fm) (hw : WrOK gl ns g) (br : Bool) (id bid nid : Nat) (xs : Bs) (σ : Sto) (h1 : σ.get id = some (.tok 1 xs.length)) (h2 : σ.get bid = some (.box [.own id (u8L xs)])) (h3 : σ.get nid = some (.box [.list false (ns.map encT)]))
    (hl : id < σ.next ∧ bid < σ.next ∧ nid < σ.next) (hne : (bid = id) = False ∧ (nid = id) = False ∧ (nid = bid) = False ∧ (id = bid) = False) (hlen : xs.length + (brk br (wrS ns g)).length < 1000000) :
    CallX (C gl) 168 [encF g, .bool br, .ptr bid 0, .ptr nid 0] σ (.tup []) ((σ.set id (.tok 1 (xs.length + (brk br (wrS ns g)).length))).set bid (.box [.own id (u8L (xs ++ brk br (wrS ns g)))])) := by
  obtain ⟨l1, l2, l3⟩ := hl
  obtain ⟨n1, n2, n3, n4⟩ := hne
  refine callX_of b168 (by simp [Tryd.ntmps168]) ?_
  have nz_id : (id = σ.next) = False := by simp; omega
  have nx_id : ∀ j, (id = σ.next + j) = False := fun j => by simp; omega
  have nz_bid : (bid = σ.next) = False := by simp; omega
  have nx_bid : ∀ j, (bid = σ.next + j) = False := fun j => by simp; omega
  have nz_nid : (nid = σ.next) = False := by simp; omega
  have nx_nid : ∀ j, (nid = σ.next + j) = False := fun j => by simp; omega
  refine W.of ?_
  rw [Tryd.ntmps168]
  simp only [toK, codeOf, Tryd.f168, go_sem, seval, reduceCtorEq]
  have H := And.intro @nz_id (And.intro @nx_id (And.intro @nz_bid (And.intro @nx_bid (And.intro @nz_nid (And.intro @nx_nid (And.intro @h1 (And.intro @h2 (And.intro @h3 (And.intro @n1 (And.intro @n2 (And.intro @n3 (And.intro @n4 (And.intro @encF_eq (And.intro @lappA (And.intro @lappB (And.intro @lcA (And.intro @lcB (And.intro @lnA @lnB))))))))))))))))))
  refine goB ?_
  first | exact trivial | clear H
  cases br with
  | true =>
    simp only [brk, if_true, List.length_append, List.length_cons, List.length_nil] at hlen
    have H := And.intro @nz_id (And.intro @nx_id (And.intro @nz_bid (And.intro @nx_bid (And.intro @nz_nid (And.intro @nx_nid (And.intro @h1 (And.intro @h2 (And.intro @h3 (And.intro @n1 (And.intro @n2 (And.intro @n3 (And.intro @n4 (And.intro @encF_eq (And.intro @lappA (And.intro @lappB (And.intro @lcA (And.intro @lcB (And.intro @lnA @lnB))))))))))))))))))
    refine goB ?_
    first | exact trivial | clear H
    have H := And.intro @nz_id (And.intro @nx_id (And.intro @nz_bid (And.intro @nx_bid (And.intro @nz_nid (And.intro @nx_nid (And.intro @h1 (And.intro @h2 (And.intro @h3 (And.intro @n1 (And.intro @n2 (And.intro @n3 (And.intro @n4 (And.intro @encF_eq (And.intro @lappA (And.intro @lappB (And.intro @lcA (And.intro @lcB (And.intro @lnA @lnB))))))))))))))))))
    refine appB ?_
    first | exact trivial | clear H
    have H := And.intro @nz_id (And.intro @nx_id (And.intro @nz_bid (And.intro @nx_bid (And.intro @nz_nid (And.intro @nx_nid (And.intro @h1 (And.intro @h2 (And.intro @h3 (And.intro @n1 (And.intro @n2 (And.intro @n3 (And.intro @n4 (And.intro @encF_eq (And.intro @lappA (And.intro @lappB (And.intro @lcA (And.intro @lcB (And.intro @lnA @lnB))))))))))))))))))
    refine goB ?_
    first | exact trivial | clear H
    refine callK_x0 (hw id (xs ++ [40]) _ (by simp only [go_sem, seval, reduceCtorEq, nz_id, nx_id, nz_bid, nx_bid, nz_nid, nx_nid, h1, h2, h3, n1, n2, n3, n4, encF_eq, List.length_append, List.length_cons, List.length_nil]; first | done | omega) ltsA (by simp only [List.length_append, List.length_cons, List.length_nil]; omega)) rfl ?_ ?_ ?_ <;> simp only [go_sem, seval, reduceCtorEq, nz_id, nx_id, nz_bid, nx_bid, nz_nid, nx_nid, h1, h2, h3, n1, n2, n3, n4, encF_eq, List.length_append, List.length_cons, List.length_nil, encF_eq]
    have H := And.intro @nz_id (And.intro @nx_id (And.intro @nz_bid (And.intro @nx_bid (And.intro @nz_nid (And.intro @nx_nid (And.intro @h1 (And.intro @h2 (And.intro @h3 (And.intro @n1 (And.intro @n2 (And.intro @n3 (And.intro @n4 (And.intro @encF_eq (And.intro @lappA (And.intro @lappB (And.intro @lcA (And.intro @lcB (And.intro @lnA @lnB))))))))))))))))))
    refine goB ?_
    first | exact trivial | clear H
    have H := And.intro @nz_id (And.intro @nx_id (And.intro @nz_bid (And.intro @nx_bid (And.intro @nz_nid (And.intro @nx_nid (And.intro @h1 (And.intro @h2 (And.intro @h3 (And.intro @n1 (And.intro @n2 (And.intro @n3 (And.intro @n4 (And.intro @encF_eq (And.intro @lappA (And.intro @lappB (And.intro @lcA (And.intro @lcB (And.intro @lnA @lnB))))))))))))))))))
    refine appB ?_
    first | exact trivial | clear H
    have ec : xs.length + (brk true (wrS ns g)).length = xs.length + (1 + ((wrS ns g).length + 1)) := by simp [brk]; omega
    have el : xs ++ brk true (wrS ns g) = xs ++ [40] ++ wrS ns g ++ [41] := by simp [brk]
    rw [ec, el]
    have H := And.intro @nz_id (And.intro @nx_id (And.intro @nz_bid (And.intro @nx_bid (And.intro @nz_nid (And.intro @nx_nid (And.intro @h1 (And.intro @h2 (And.intro @h3 (And.intro @n1 (And.intro @n2 (And.intro @n3 (And.intro @n4 (And.intro @encF_eq (And.intro @lappA (And.intro @lappB (And.intro @lcA (And.intro @lcB (And.intro @lnA @lnB))))))))))))))))))
    exact cutA
  | false =>
    have el : brk false (wrS ns g) = wrS ns g := by simp [brk]
    rw [el] at hlen ⊢
    have H := And.intro @nz_id (And.intro @nx_id (And.intro @nz_bid (And.intro @nx_bid (And.intro @nz_nid (And.intro @nx_nid (And.intro @h1 (And.intro @h2 (And.intro @h3 (And.intro @n1 (And.intro @n2 (And.intro @n3 (And.intro @n4 (And.intro @encF_eq (And.intro @lappA (And.intro @lappB (And.intro @lcA (And.intro @lcB (And.intro @lnA @lnB))))))))))))))))))
    refine goB ?_
    first | exact trivial | clear H
    refine callK_x0 (hw id xs _ (by simp only [go_sem, seval, reduceCtorEq, nz_id, nx_id, nz_bid, nx_bid, nz_nid, nx_nid, h1, h2, h3, n1, n2, n3, n4, encF_eq, List.length_append, List.length_cons, List.length_nil]; first | done | omega) ltsA (by omega)) rfl ?_ ?_ ?_ <;> simp only [go_sem, seval, reduceCtorEq, nz_id, nx_id, nz_bid, nx_bid, nz_nid, nx_nid, h1, h2, h3, n1, n2, n3, n4, encF_eq, List.length_append, List.length_cons, List.length_nil, encF_eq]
    have H := And.intro @nz_id (And.intro @nx_id (And.intro @nz_bid (And.intro @nx_bid (And.intro @nz_nid (And.intro @nx_nid (And.intro @h1 (And.intro @h2 (And.intro @h3 (And.intro @n1 (And.intro @n2 (And.intro @n3 (And.intro @n4 (And.intro @encF_eq (And.intro @lappA (And.intro @lappB (And.intro @lcA (And.intro @lcB (And.intro @lnA @lnB))))))))))))))))))
    refine goB ?_
    first | exact trivial | clear H
    have H := And.intro @nz_id (And.intro @nx_id (And.intro @nz_bid (And.intro @nx_bid (And.intro @nz_nid (And.intro @nx_nid (And.intro @h1 (And.intro @h2 (And.intro @h3 (And.intro @n1 (And.intro @n2 (And.intro @n3 (And.intro @n4 (And.intro @encF_eq (And.intro @lappA (And.intro @lappB (And.intro @lcA (And.intro @lcB (And.intro @lnA @lnB))))))))))))))))))
    exact cutA
/-- The store while a formula is written. -/
def wrSt (σ : Sto) (id n : Nat) (ys : Bs) (ns : List Bs) (o v : Int) (L : AV) : Sto :=
  (((σ.set id (.tok 1 n)).add (.box [.own id (u8L ys)])).add (.box [.list false (ns.map encT)])).add (.box [.int .i64 o, .int .i64 v, L])
theorem inner_at (ns : List Bs) (g : Fm) (hw : WrOK gl ns g) (br : Bool) (σ : Sto) (id n n' : Nat) (ys : Bs) (o v : Int) (L : AV) (hl : id < σ.next) (hn : n = ys.length) (hn' : n' = n + (brk br (wrS ns g)).length) (hlen : n' < 1000000) :
    CallX (C gl) 168 ([encF g, .bool br] ++ [.ptr σ.next 0, .ptr (σ.next + 1) 0]) (wrSt σ id n ys ns o v L) (.tup []) (wrSt σ id n' (ys ++ brk br (wrS ns g)) ns o v L) := by
  subst hn
  have h := inner_ok ns g hw br id σ.next (σ.next + 1) ys (wrSt σ id ys.length ys ns o v L)
    (by simp only [wrSt, Sto.get_add, Sto.next_add, Sto.get_set, Sto.next_set]; rw [if_neg (by omega), if_neg (by omega), if_neg (by omega)]; simp)
    (by simp only [wrSt, Sto.get_add, Sto.next_add, Sto.get_set, Sto.next_set]; rw [if_neg (by omega), if_neg (by omega)]; simp)
    (by simp only [wrSt, Sto.get_add, Sto.next_add, Sto.get_set, Sto.next_set]; rw [if_neg (by omega)]; simp)
    (by simp only [wrSt, Sto.next_add, Sto.next_set]; omega) (by simp; omega) (by omega)
  have e : ((wrSt σ id ys.length ys ns o v L).set id (.tok 1 (ys.length + (brk br (wrS ns g)).length))).set σ.next (.box [.own id (u8L (ys ++ brk br (wrS ns g)))]) = wrSt σ id n' (ys ++ brk br (wrS ns g)) ns o v L := by
    refine Sto.ext' (by simp only [wrSt, Sto.next_add, Sto.next_set]) fun i => ?_
    simp only [wrSt, Sto.get_add, Sto.next_add, Sto.get_set, Sto.next_set, ← hn']
    repeat' split
    all_goals first | rfl | omega
  rw [← e]
  exact h
theorem inner_at0 (ns : List Bs) (g : Fm) (hw : WrOK gl ns g) (br : Bool) (σ : Sto) (id n' : Nat) (ys : Bs) (o v : Int) (L : AV) (hl : id < σ.next) (h1 : σ.get id = some (.tok 1 ys.length)) (hn' : n' = ys.length + (brk br (wrS ns g)).length) (hlen : n' < 1000000) :
    CallX (C gl) 168 ([encF g, .bool br] ++ [.ptr σ.next 0, .ptr (σ.next + 1) 0]) (((σ.add (.box [.own id (u8L ys)])).add (.box [.list false (ns.map encT)])).add (.box [.int .i64 o, .int .i64 v, L])) (.tup []) (wrSt σ id n' (ys ++ brk br (wrS ns g)) ns o v L) := by
  have h := inner_at ns g hw br σ id ys.length n' ys o v L hl rfl hn' hlen
  have e : σ.set id (.tok 1 ys.length) = σ := by
    refine Sto.ext' rfl fun i => ?_
    rw [Sto.get_set]
    split
    · rename_i e; rw [e, h1]
    · rfl
  have e2 : wrSt σ id ys.length ys ns o v L = ((σ.add (.box [.own id (u8L ys)])).add (.box [.list false (ns.map encT)])).add (.box [.int .i64 o, .int .i64 v, L]) := by rw [wrSt, e]
  rw [e2] at h
  exact h
theorem arL_nat : ∀ o : Nat, o < 14 → arityL.getD o 0 = 0 ∨ arityL.getD o 0 = 1 ∨ arityL.getD o 0 = 2 := by decide
theorem okNode_eq (n o v : Int) (l : List Fm) : okNode n (.mk o v l) = (decide (0 ≤ o) && decide (o ≤ 13) && decide ((l.length : Int) = arityL.getD o.toNat 0) && (if o = 2 then decide (0 ≤ v) && decide (v < n) else decide (v = 0))) := (rfl)
set_option maxHeartbeats 2000000 in
theorem write_k (har : gl.at' 0 = arityA) (hst : gl.at' 1 = strengthA) (hri : gl.at' 2 = rightA) (hsg : gl.at' 3 = signsA) (ns : List Bs) (hns : ns.length < 1000) (o v : Int) (l : List Fm)
    (hok : okNode ns.length (.mk o v l) = true) (hch : ∀ g ∈ l, 0 ≤ g.op ∧ g.op < 14) (ih : ∀ g ∈ l, WrOK gl ns g) : WrOK gl ns (.mk o v l) := by
  intro id xs σ h1 l1 hlen
  have hsg' : (C gl).gl 3 = signsA := hsg
  have har' : (C gl).gl 0 = arityA := har
  have hst' : (C gl).gl 1 = strengthA := hst
  have hri' : (C gl).gl 2 = rightA := hri
  rw [okNode_eq] at hok
  simp only [Bool.and_eq_true] at hok
  obtain ⟨⟨⟨ho1, ho2⟩, hal⟩, hv⟩ := hok
  replace ho1 := of_decide_eq_true ho1
  replace ho2 := of_decide_eq_true ho2
  replace hal := of_decide_eq_true hal
  obtain ⟨k, rfl⟩ := Int.eq_ofNat_of_zero_le ho1
  have hk14 : k < 14 := by omega
  rw [Int.toNat_natCast] at hal
  have g1 := getD_map' (AV.int .i64) arityL 0 (i := k) hk14
  have g2 := getD_map' (AV.int .i64) strengthL 0 (i := k) hk14
  have g3 := getD_map' AV.bool rightL false (i := k) hk14
  have g4 := getD_map' encT signsL [] (i := k) hk14
  have g1 : arityA.getD k .undef = _ := g1
  have g2 : strengthA.getD k .undef = _ := g2
  have g3 : rightA.getD k .undef = _ := g3
  have g4 : signsA.getD k .undef = _ := g4
  have n1 : arityA.length = 14 := rfl
  have n2 : strengthA.length = 14 := rfl
  have n3 : rightA.length = 14 := rfl
  have n4 : signsA.length = 14 := rfl
  refine callX_of b102 (by simp [Tryd.ntmps102]) ?_
  have nz_id : (id = σ.next) = False := by simp; omega
  have nx_id : ∀ j, (id = σ.next + j) = False := fun j => by simp; omega
  refine W.of ?_
  rw [Tryd.ntmps102]
  simp only [toK, codeOf, Tryd.f102, go_sem, seval, reduceCtorEq]
  have H := And.intro @nz_id (And.intro @nx_id (And.intro @h1 (And.intro @hsg' (And.intro @har' (And.intro @hst' (And.intro @hri' (And.intro @g1 (And.intro @g2 (And.intro @g3 (And.intro @g4 (And.intro @n1 (And.intro @n2 (And.intro @n3 (And.intro @n4 (And.intro @encT_eq (And.intro @encFs_len (And.intro @lappA (And.intro @lappB (And.intro @lcA (And.intro @lcB (And.intro @lnA (And.intro @lnB @encF_eq))))))))))))))))))))))
  refine goB ?_
  first | exact trivial | clear H
  rcases arL_nat k hk14 with ha | ha | ha
  · cases q : ((k : Int) == 2) with
    | true =>
      have hk2 : (k : Int) = 2 := eq_of_beq q
      rw [if_pos hk2, Bool.and_eq_true] at hv
      obtain ⟨hv1, hv2⟩ := hv
      replace hv1 := of_decide_eq_true hv1
      replace hv2 := of_decide_eq_true hv2
      obtain ⟨vn, rfl⟩ := Int.eq_ofNat_of_zero_le hv1
      have hvn : vn < ns.length := by omega
      have g5 := map_getT encT ns vn hvn
      have ew : wrS ns (.mk k vn l) = ns[vn] := by
        simp only [wrS, wrC, arAt, Int.toNat_natCast, ha, q, beq_self_eq_true, if_true]
        simp [List.getD_eq_getElem?_getD, hvn]
      rw [ew] at hlen ⊢
      have H := And.intro @nz_id (And.intro @nx_id (And.intro @h1 (And.intro @hsg' (And.intro @har' (And.intro @hst' (And.intro @hri' (And.intro @g1 (And.intro @g2 (And.intro @g3 (And.intro @g4 (And.intro @n1 (And.intro @n2 (And.intro @n3 (And.intro @n4 (And.intro @encT_eq (And.intro @encFs_len (And.intro @lappA (And.intro @lappB (And.intro @lcA (And.intro @lcB (And.intro @lnA (And.intro @lnB (And.intro @ha @q)))))))))))))))))))))))
      refine goB ?_
      first | exact trivial | clear H
      refine WK.draw [⟨false, 0, 0⟩, ⟨false, 0, 0⟩, ⟨false, 0, 0⟩, ⟨false, 0, 0⟩, ⟨false, 0, 0⟩, ⟨false, 0, 0⟩, ⟨true, 0, 0⟩, ⟨false, 0, 0⟩] mixed (by kernel_rfl) ?_
      simp only [go_sem, seval, reduceCtorEq, nz_id, nx_id, h1, hsg', har', hst', hri', g1, g2, g3, g4, n1, n2, n3, n4, encT_eq, encFs_len, List.length_append, List.length_cons, List.length_nil, g5, List.length_map]
      refine ⟨⟨by omega, by omega⟩, ?_⟩
      have H := And.intro @nz_id (And.intro @nx_id (And.intro @h1 (And.intro @hsg' (And.intro @har' (And.intro @hst' (And.intro @hri' (And.intro @g1 (And.intro @g2 (And.intro @g3 (And.intro @g4 (And.intro @n1 (And.intro @n2 (And.intro @n3 (And.intro @n4 (And.intro @encT_eq (And.intro @encFs_len (And.intro @lappA (And.intro @lappB (And.intro @lcA (And.intro @lcB (And.intro @lnA (And.intro @lnB @g5))))))))))))))))))))))
      refine apsBd ?_
      first | exact trivial | clear H
      have H := And.intro @nz_id (And.intro @nx_id (And.intro @h1 (And.intro @hsg' (And.intro @har' (And.intro @hst' (And.intro @hri' (And.intro @g1 (And.intro @g2 (And.intro @g3 (And.intro @g4 (And.intro @n1 (And.intro @n2 (And.intro @n3 (And.intro @n4 (And.intro @encT_eq (And.intro @encFs_len (And.intro @lappA (And.intro @lappB (And.intro @lcA (And.intro @lcB (And.intro @lnA @lnB)))))))))))))))))))))
      refine goB ?_
      first | exact trivial | clear H
      have H := And.intro @nz_id (And.intro @nx_id (And.intro @h1 (And.intro @hsg' (And.intro @har' (And.intro @hst' (And.intro @hri' (And.intro @g1 (And.intro @g2 (And.intro @g3 (And.intro @g4 (And.intro @n1 (And.intro @n2 (And.intro @n3 (And.intro @n4 (And.intro @encT_eq (And.intro @encFs_len (And.intro @lappA (And.intro @lappB (And.intro @lcA (And.intro @lcB (And.intro @lnA @lnB)))))))))))))))))))))
      exact cutA
    | false =>
      have ew : wrS ns (.mk k v l) = signsL.getD k [] := by
        simp only [wrS, wrC, arAt, Int.toNat_natCast, ha, q, signAt, beq_self_eq_true, if_true, Bool.false_eq_true, if_false]
      rw [ew] at hlen ⊢
      have H := And.intro @nz_id (And.intro @nx_id (And.intro @h1 (And.intro @hsg' (And.intro @har' (And.intro @hst' (And.intro @hri' (And.intro @g1 (And.intro @g2 (And.intro @g3 (And.intro @g4 (And.intro @n1 (And.intro @n2 (And.intro @n3 (And.intro @n4 (And.intro @encT_eq (And.intro @encFs_len (And.intro @lappA (And.intro @lappB (And.intro @lcA (And.intro @lcB (And.intro @lnA (And.intro @lnB (And.intro @ha @q)))))))))))))))))))))))
      refine goB ?_
      first | exact trivial | clear H
      refine WK.draw [⟨false, 0, 0⟩, ⟨false, 0, 0⟩, ⟨false, 0, 0⟩, ⟨false, 0, 0⟩, ⟨false, 0, 0⟩, ⟨true, 0, 0⟩, ⟨false, 0, 0⟩] mixed (by kernel_rfl) ?_
      simp only [go_sem, seval, reduceCtorEq, nz_id, nx_id, h1, hsg', har', hst', hri', g1, g2, g3, g4, n1, n2, n3, n4, encT_eq, encFs_len, List.length_append, List.length_cons, List.length_nil]
      refine ⟨⟨by omega, by omega⟩, by omega, ?_⟩
      have H := And.intro @nz_id (And.intro @nx_id (And.intro @h1 (And.intro @hsg' (And.intro @har' (And.intro @hst' (And.intro @hri' (And.intro @g1 (And.intro @g2 (And.intro @g3 (And.intro @g4 (And.intro @n1 (And.intro @n2 (And.intro @n3 (And.intro @n4 (And.intro @encT_eq (And.intro @encFs_len (And.intro @lappA (And.intro @lappB (And.intro @lcA (And.intro @lcB (And.intro @lnA @lnB)))))))))))))))))))))
      refine apsBd ?_
      first | exact trivial | clear H
      have H := And.intro @nz_id (And.intro @nx_id (And.intro @h1 (And.intro @hsg' (And.intro @har' (And.intro @hst' (And.intro @hri' (And.intro @g1 (And.intro @g2 (And.intro @g3 (And.intro @g4 (And.intro @n1 (And.intro @n2 (And.intro @n3 (And.intro @n4 (And.intro @encT_eq (And.intro @encFs_len (And.intro @lappA (And.intro @lappB (And.intro @lcA (And.intro @lcB (And.intro @lnA @lnB)))))))))))))))))))))
      refine goB ?_
      first | exact trivial | clear H
      have H := And.intro @nz_id (And.intro @nx_id (And.intro @h1 (And.intro @hsg' (And.intro @har' (And.intro @hst' (And.intro @hri' (And.intro @g1 (And.intro @g2 (And.intro @g3 (And.intro @g4 (And.intro @n1 (And.intro @n2 (And.intro @n3 (And.intro @n4 (And.intro @encT_eq (And.intro @encFs_len (And.intro @lappA (And.intro @lappB (And.intro @lcA (And.intro @lcB (And.intro @lnA @lnB)))))))))))))))))))))
      exact cutA
  · obtain ⟨g, rfl⟩ : ∃ g, l = [g] := by
      match l, hal with
      | [], h => rw [ha] at h; simp at h
      | [g], _ => exact ⟨g, rfl⟩
      | _ :: _ :: _, h => rw [ha] at h; simp at h; omega
    obtain ⟨kg, hkg, hkg14⟩ : ∃ kg : Nat, g.op = (kg : Int) ∧ kg < 14 := by
      obtain ⟨c1, c2⟩ := hch g (List.mem_cons_self ..)
      exact ⟨g.op.toNat, by omega, by omega⟩
    have f1 := getD_map' (AV.int .i64) arityL 0 (i := kg) hkg14
    have f1 : arityA.getD kg .undef = _ := f1
    have hwg := ih g (List.mem_cons_self ..)
    have H := And.intro @nz_id (And.intro @nx_id (And.intro @h1 (And.intro @hsg' (And.intro @har' (And.intro @hst' (And.intro @hri' (And.intro @g1 (And.intro @g2 (And.intro @g3 (And.intro @g4 (And.intro @n1 (And.intro @n2 (And.intro @n3 (And.intro @n4 (And.intro @encT_eq (And.intro @encFs_len (And.intro @lappA (And.intro @lappB (And.intro @lcA (And.intro @lcB (And.intro @lnA (And.intro @lnB @ha))))))))))))))))))))))
    refine goB ?_
    first | exact trivial | clear H
    refine WK.draw [⟨false, 0, 0⟩, ⟨false, 0, 0⟩, ⟨false, 0, 0⟩, ⟨false, 0, 0⟩, ⟨false, 0, 0⟩, ⟨true, 0, 0⟩, ⟨true, 0, 0⟩] mixed (by kernel_rfl) ?_
    simp only [go_sem, seval, reduceCtorEq, nz_id, nx_id, h1, hsg', har', hst', hri', g1, g2, g3, g4, n1, n2, n3, n4, encT_eq, encFs_len, List.length_append, List.length_cons, List.length_nil]
    refine ⟨⟨by omega, by omega⟩, by omega, ?_⟩
    cases q : ((k : Int) == 3) with
    | true =>
      have ew : wrS ns (.mk k v [g]) = signsL.getD k [] ++ brk (arityL.getD kg 0 == 2) (wrS ns g) := by
        simp only [wrS, wrL, wrC, hkg, arAt, Int.toNat_natCast, ha, q, signAt, beq_self_eq_true, if_true, List.append_nil]; rfl
      rw [ew] at hlen ⊢
      rw [List.length_append] at hlen
      have H := And.intro @nz_id (And.intro @nx_id (And.intro @h1 (And.intro @hsg' (And.intro @har' (And.intro @hst' (And.intro @hri' (And.intro @g1 (And.intro @g2 (And.intro @g3 (And.intro @g4 (And.intro @n1 (And.intro @n2 (And.intro @n3 (And.intro @n4 (And.intro @encT_eq (And.intro @encFs_len (And.intro @lappA (And.intro @lappB (And.intro @lcA (And.intro @lcB (And.intro @lnA @lnB)))))))))))))))))))))
      refine apsBd ?_
      first | exact trivial | clear H
      have H := And.intro @nz_id (And.intro @nx_id (And.intro @h1 (And.intro @hsg' (And.intro @har' (And.intro @hst' (And.intro @hri' (And.intro @g1 (And.intro @g2 (And.intro @g3 (And.intro @g4 (And.intro @n1 (And.intro @n2 (And.intro @n3 (And.intro @n4 (And.intro @encT_eq (And.intro @encFs_len (And.intro @lappA (And.intro @lappB (And.intro @lcA (And.intro @lcB (And.intro @lnA (And.intro @lnB @q))))))))))))))))))))))
      refine goB ?_
      first | exact trivial | clear H
      refine WK.draw [⟨false, 0, 0⟩, ⟨false, 0, 0⟩, ⟨false, 0, 0⟩, ⟨false, 0, 0⟩, ⟨false, 0, 0⟩, ⟨false, 0, 0⟩, ⟨false, 0, 0⟩, ⟨false, 0, 0⟩, ⟨false, 0, 0⟩, ⟨false, 0, 0⟩, ⟨false, 0, 0⟩, ⟨false, 0, 0⟩, ⟨false, 0, 0⟩, ⟨true, 0, 0⟩] mixed (by kernel_rfl) ?_
      simp only [go_sem, seval, reduceCtorEq, nz_id, nx_id, h1, hsg', har', hst', hri', g1, g2, g3, g4, n1, n2, n3, n4, encT_eq, encFs_len, List.length_append, List.length_cons, List.length_nil, hkg, f1, encFs, encF_eq]
      refine ⟨⟨by omega, by omega⟩, by omega, ?_⟩
      refine callD_x (inner_at ns g hwg (arityL.getD kg 0 == 2) σ id (xs.length + (signsL.getD k []).length) _ (xs ++ signsL.getD k []) k v _ l1 (by rw [List.length_append]) rfl (by omega)) rfl ?_ ?_ ?_ <;> simp only [go_sem, seval, reduceCtorEq, nz_id, nx_id, h1, hsg', har', hst', hri', g1, g2, g3, g4, n1, n2, n3, n4, encT_eq, encFs_len, List.length_append, List.length_cons, List.length_nil, hkg, encF_eq]
      simp only [go_sem, seval, reduceCtorEq, nz_id, nx_id, h1, hsg', har', hst', hri', g1, g2, g3, g4, n1, n2, n3, n4, encT_eq, encFs_len, List.length_append, List.length_cons, List.length_nil, wrSt]
      have H := And.intro @nz_id (And.intro @nx_id (And.intro @h1 (And.intro @hsg' (And.intro @har' (And.intro @hst' (And.intro @hri' (And.intro @g1 (And.intro @g2 (And.intro @g3 (And.intro @g4 (And.intro @n1 (And.intro @n2 (And.intro @n3 (And.intro @n4 (And.intro @encT_eq (And.intro @encFs_len (And.intro @lappA (And.intro @lappB (And.intro @lcA (And.intro @lcB (And.intro @lnA @lnB)))))))))))))))))))))
      refine goB ?_
      first | exact trivial | clear H
      refine ⟨⟨by simp only [List.append_assoc]; exact .refl _, l1⟩, ?_⟩
      have H := And.intro @nz_id (And.intro @nx_id (And.intro @h1 (And.intro @hsg' (And.intro @har' (And.intro @hst' (And.intro @hri' (And.intro @g1 (And.intro @g2 (And.intro @g3 (And.intro @g4 (And.intro @n1 (And.intro @n2 (And.intro @n3 (And.intro @n4 (And.intro @encT_eq (And.intro @encFs_len (And.intro @lappA (And.intro @lappB (And.intro @lcA (And.intro @lcB (And.intro @lnA @lnB)))))))))))))))))))))
      exact cutA
    | false =>
      have ew : wrS ns (.mk k v [g]) = (signsL.getD k [] ++ [32]) ++ brk (arityL.getD kg 0 == 2) (wrS ns g) := by
        simp only [wrS, wrL, wrC, hkg, arAt, Int.toNat_natCast, ha, q, signAt, beq_self_eq_true, if_true, Bool.false_eq_true, if_false]; rfl
      rw [ew] at hlen ⊢
      simp only [List.length_append, List.length_cons, List.length_nil] at hlen
      have H := And.intro @nz_id (And.intro @nx_id (And.intro @h1 (And.intro @hsg' (And.intro @har' (And.intro @hst' (And.intro @hri' (And.intro @g1 (And.intro @g2 (And.intro @g3 (And.intro @g4 (And.intro @n1 (And.intro @n2 (And.intro @n3 (And.intro @n4 (And.intro @encT_eq (And.intro @encFs_len (And.intro @lappA (And.intro @lappB (And.intro @lcA (And.intro @lcB (And.intro @lnA @lnB)))))))))))))))))))))
      refine apsBd ?_
      first | exact trivial | clear H
      have H := And.intro @nz_id (And.intro @nx_id (And.intro @h1 (And.intro @hsg' (And.intro @har' (And.intro @hst' (And.intro @hri' (And.intro @g1 (And.intro @g2 (And.intro @g3 (And.intro @g4 (And.intro @n1 (And.intro @n2 (And.intro @n3 (And.intro @n4 (And.intro @encT_eq (And.intro @encFs_len (And.intro @lappA (And.intro @lappB (And.intro @lcA (And.intro @lcB (And.intro @lnA (And.intro @lnB @q))))))))))))))))))))))
      refine goB ?_
      first | exact trivial | clear H
      have H := And.intro @nz_id (And.intro @nx_id (And.intro @h1 (And.intro @hsg' (And.intro @har' (And.intro @hst' (And.intro @hri' (And.intro @g1 (And.intro @g2 (And.intro @g3 (And.intro @g4 (And.intro @n1 (And.intro @n2 (And.intro @n3 (And.intro @n4 (And.intro @encT_eq (And.intro @encFs_len (And.intro @lappA (And.intro @lappB (And.intro @lcA (And.intro @lcB (And.intro @lnA @lnB)))))))))))))))))))))
      refine appB ?_
      first | exact trivial | clear H
      have H := And.intro @nz_id (And.intro @nx_id (And.intro @h1 (And.intro @hsg' (And.intro @har' (And.intro @hst' (And.intro @hri' (And.intro @g1 (And.intro @g2 (And.intro @g3 (And.intro @g4 (And.intro @n1 (And.intro @n2 (And.intro @n3 (And.intro @n4 (And.intro @encT_eq (And.intro @encFs_len (And.intro @lappA (And.intro @lappB (And.intro @lcA (And.intro @lcB (And.intro @lnA @lnB)))))))))))))))))))))
      refine goB ?_
      first | exact trivial | clear H
      refine WK.draw [⟨false, 0, 0⟩, ⟨false, 0, 0⟩, ⟨false, 0, 0⟩, ⟨false, 0, 0⟩, ⟨false, 0, 0⟩, ⟨false, 0, 0⟩, ⟨false, 0, 0⟩, ⟨false, 0, 0⟩, ⟨false, 0, 0⟩, ⟨false, 0, 0⟩, ⟨false, 0, 0⟩, ⟨false, 0, 0⟩, ⟨false, 0, 0⟩, ⟨true, 0, 0⟩] mixed (by kernel_rfl) ?_
      simp only [go_sem, seval, reduceCtorEq, nz_id, nx_id, h1, hsg', har', hst', hri', g1, g2, g3, g4, n1, n2, n3, n4, encT_eq, encFs_len, List.length_append, List.length_cons, List.length_nil, hkg, f1, encFs, encF_eq]
      refine ⟨⟨by omega, by omega⟩, by omega, ?_⟩
      refine callD_x (inner_at ns g hwg (arityL.getD kg 0 == 2) σ id (xs.length + ((signsL.getD k []).length + 1)) _ (xs ++ signsL.getD k [] ++ [32]) k v _ l1 (by simp only [List.length_append, List.length_cons, List.length_nil]; omega) rfl (by omega)) rfl ?_ ?_ ?_ <;> simp only [go_sem, seval, reduceCtorEq, nz_id, nx_id, h1, hsg', har', hst', hri', g1, g2, g3, g4, n1, n2, n3, n4, encT_eq, encFs_len, List.length_append, List.length_cons, List.length_nil, hkg, encF_eq]
      simp only [go_sem, seval, reduceCtorEq, nz_id, nx_id, h1, hsg', har', hst', hri', g1, g2, g3, g4, n1, n2, n3, n4, encT_eq, encFs_len, List.length_append, List.length_cons, List.length_nil, wrSt]
      have H := And.intro @nz_id (And.intro @nx_id (And.intro @h1 (And.intro @hsg' (And.intro @har' (And.intro @hst' (And.intro @hri' (And.intro @g1 (And.intro @g2 (And.intro @g3 (And.intro @g4 (And.intro @n1 (And.intro @n2 (And.intro @n3 (And.intro @n4 (And.intro @encT_eq (And.intro @encFs_len (And.intro @lappA (And.intro @lappB (And.intro @lcA (And.intro @lcB (And.intro @lnA @lnB)))))))))))))))))))))
      refine goB ?_
      first | exact trivial | clear H
      refine ⟨⟨by simp only [List.append_assoc]; exact .refl _, l1⟩, ?_⟩
      have H := And.intro @nz_id (And.intro @nx_id (And.intro @h1 (And.intro @hsg' (And.intro @har' (And.intro @hst' (And.intro @hri' (And.intro @g1 (And.intro @g2 (And.intro @g3 (And.intro @g4 (And.intro @n1 (And.intro @n2 (And.intro @n3 (And.intro @n4 (And.intro @encT_eq (And.intro @encFs_len (And.intro @lappA (And.intro @lappB (And.intro @lcA (And.intro @lcB (And.intro @lnA @lnB)))))))))))))))))))))
      exact cutA
  · obtain ⟨g, h, rfl⟩ : ∃ g h, l = [g, h] := by
      match l, hal with
      | [], e => rw [ha] at e; simp at e
      | [_], e => rw [ha] at e; simp at e
      | [g, h], _ => exact ⟨g, h, rfl⟩
      | _ :: _ :: _ :: _, e => rw [ha] at e; simp at e; omega
    obtain ⟨kg, hkg, hkg14⟩ : ∃ kg : Nat, g.op = (kg : Int) ∧ kg < 14 := by
      obtain ⟨c1, c2⟩ := hch g (List.mem_cons_self ..)
      exact ⟨g.op.toNat, by omega, by omega⟩
    obtain ⟨kh, hkh, hkh14⟩ : ∃ kh : Nat, h.op = (kh : Int) ∧ kh < 14 := by
      obtain ⟨c1, c2⟩ := hch h (List.mem_cons_of_mem _ (List.mem_cons_self ..))
      exact ⟨h.op.toNat, by omega, by omega⟩
    have f1 := getD_map' (AV.int .i64) strengthL 0 (i := kg) hkg14
    have f1 : strengthA.getD kg .undef = _ := f1
    have f2 := getD_map' (AV.int .i64) strengthL 0 (i := kh) hkh14
    have f2 : strengthA.getD kh .undef = _ := f2
    have hwg := ih g (List.mem_cons_self ..)
    have hwh := ih h (List.mem_cons_of_mem _ (List.mem_cons_self ..))
    let b1 : Bool := decide (strengthL.getD kg 0 < strengthL.getD k 0) || ((strengthL.getD kg 0 == strengthL.getD k 0) && rightL.getD k false)
    let b2 : Bool := decide (strengthL.getD kh 0 < strengthL.getD k 0) || ((strengthL.getD kh 0 == strengthL.getD k 0) && !rightL.getD k false)
    have ew : wrS ns (.mk k v [g, h]) = brk b1 (wrS ns g) ++ ([32] ++ signsL.getD k [] ++ [32]) ++ brk b2 (wrS ns h) := by
      have z1 : ((2 : Int) == 0) = false := by decide
      have z2 : ((2 : Int) == 1) = false := by decide
      simp only [wrS, wrL, wrC, hkg, hkh, arAt, stAt, riAt, Int.toNat_natCast, ha, signAt, z1, z2, Bool.false_eq_true, if_false, b1, b2]; rfl
    rw [ew] at hlen ⊢
    simp only [List.length_append, List.length_cons, List.length_nil] at hlen
    have H := And.intro @nz_id (And.intro @nx_id (And.intro @h1 (And.intro @hsg' (And.intro @har' (And.intro @hst' (And.intro @hri' (And.intro @g1 (And.intro @g2 (And.intro @g3 (And.intro @g4 (And.intro @n1 (And.intro @n2 (And.intro @n3 (And.intro @n4 (And.intro @encT_eq (And.intro @encFs_len (And.intro @lappA (And.intro @lappB (And.intro @lcA (And.intro @lcB (And.intro @lnA (And.intro @lnB @ha))))))))))))))))))))))
    refine goB ?_
    first | exact trivial | clear H
    refine WK.joinB [3, 4, 5, 7, 8] [] [] (wrSt σ id (xs.length + (brk b1 (wrS ns g)).length) (xs ++ brk b1 (wrS ns g)) ns k v (.list false (encFs [g, h]))) ?_ ?_
    · cases p1 : decide (strengthL.getD kg 0 < strengthL.getD k 0) with
      | true =>
        have hb1 : b1 = true := by simp only [b1, p1, Bool.true_or]
        rw [hb1]
        refine WK.draw [⟨false, 0, 0⟩, ⟨false, 0, 0⟩, ⟨false, 0, 0⟩, ⟨false, 0, 0⟩, ⟨false, 0, 0⟩, ⟨false, 0, 0⟩, ⟨false, 0, 0⟩, ⟨false, 0, 0⟩, ⟨false, 0, 0⟩, ⟨false, 0, 0⟩, ⟨false, 0, 0⟩, ⟨false, 0, 0⟩, ⟨false, 0, 0⟩, ⟨false, 0, 0⟩, ⟨false, 0, 0⟩, ⟨false, 0, 0⟩, ⟨false, 0, 0⟩, ⟨false, 0, 0⟩, ⟨false, 0, 0⟩, ⟨false, 0, 0⟩, ⟨false, 0, 0⟩, ⟨false, 0, 0⟩, ⟨false, 0, 0⟩, ⟨false, 0, 0⟩, ⟨false, 0, 0⟩, ⟨false, 0, 0⟩, ⟨false, 0, 0⟩, ⟨false, 0, 0⟩, ⟨false, 0, 0⟩, ⟨false, 0, 0⟩, ⟨false, 0, 0⟩, ⟨true, 0, 0⟩] mixed (by kernel_rfl) ?_
        simp only [go_sem, seval, reduceCtorEq, nz_id, nx_id, h1, hsg', har', hst', hri', g1, g2, g3, g4, n1, n2, n3, n4, encT_eq, encFs_len, List.length_append, List.length_cons, List.length_nil, hkg, f1, encFs, encF_eq, p1]
        repeat (with_reducible refine And.intro ?_ ?_; focus omega)
        refine callD_x (inner_at0 ns g hwg true σ id _ xs k v _ l1 h1 rfl (by rw [← hb1]; omega)) rfl ?_ ?_ ?_ <;> simp only [go_sem, seval, reduceCtorEq, nz_id, nx_id, h1, hsg', har', hst', hri', g1, g2, g3, g4, n1, n2, n3, n4, encT_eq, encFs_len, List.length_append, List.length_cons, List.length_nil, hkg, encF_eq]
        simp only [go_sem, seval, reduceCtorEq, nz_id, nx_id, h1, hsg', har', hst', hri', g1, g2, g3, g4, n1, n2, n3, n4, encT_eq, encFs_len, List.length_append, List.length_cons, List.length_nil, wrSt, encFs, encF_eq, hkg]
        have H := And.intro @nz_id (And.intro @nx_id (And.intro @h1 (And.intro @hsg' (And.intro @har' (And.intro @hst' (And.intro @hri' (And.intro @g1 (And.intro @g2 (And.intro @g3 (And.intro @g4 (And.intro @n1 (And.intro @n2 (And.intro @n3 (And.intro @n4 (And.intro @encT_eq (And.intro @encFs_len (And.intro @lappA (And.intro @lappB (And.intro @lcA (And.intro @lcB (And.intro @lnA @lnB)))))))))))))))))))))
        exact cutA
      | false =>
      cases p2 : (strengthL.getD kg 0 == strengthL.getD k 0) with
      | true =>
        have hb1 : b1 = rightL.getD k false := by simp only [b1, p1, p2, Bool.false_or, Bool.true_and]
        rw [hb1]
        refine WK.draw [⟨false, 0, 0⟩, ⟨false, 0, 0⟩, ⟨false, 0, 0⟩, ⟨false, 0, 0⟩, ⟨false, 0, 0⟩, ⟨false, 0, 0⟩, ⟨false, 0, 0⟩, ⟨false, 0, 0⟩, ⟨false, 0, 0⟩, ⟨false, 0, 0⟩, ⟨false, 0, 0⟩, ⟨false, 0, 0⟩, ⟨false, 0, 0⟩, ⟨false, 0, 0⟩, ⟨false, 0, 0⟩, ⟨false, 0, 0⟩, ⟨false, 0, 0⟩, ⟨false, 0, 0⟩, ⟨false, 0, 0⟩, ⟨false, 0, 0⟩, ⟨false, 0, 0⟩, ⟨false, 0, 0⟩, ⟨false, 0, 0⟩, ⟨false, 0, 0⟩, ⟨false, 0, 0⟩, ⟨false, 0, 0⟩, ⟨false, 0, 0⟩, ⟨false, 0, 0⟩, ⟨false, 0, 0⟩, ⟨false, 0, 0⟩, ⟨false, 0, 0⟩, ⟨true, 0, 0⟩] mixed (by kernel_rfl) ?_
        simp only [go_sem, seval, reduceCtorEq, nz_id, nx_id, h1, hsg', har', hst', hri', g1, g2, g3, g4, n1, n2, n3, n4, encT_eq, encFs_len, List.length_append, List.length_cons, List.length_nil, hkg, f1, encFs, encF_eq, p1, p2]
        repeat (with_reducible refine And.intro ?_ ?_; focus omega)
        refine callD_x (inner_at0 ns g hwg (rightL.getD k false) σ id _ xs k v _ l1 h1 rfl (by rw [← hb1]; omega)) rfl ?_ ?_ ?_ <;> simp only [go_sem, seval, reduceCtorEq, nz_id, nx_id, h1, hsg', har', hst', hri', g1, g2, g3, g4, n1, n2, n3, n4, encT_eq, encFs_len, List.length_append, List.length_cons, List.length_nil, hkg, encF_eq]
        simp only [go_sem, seval, reduceCtorEq, nz_id, nx_id, h1, hsg', har', hst', hri', g1, g2, g3, g4, n1, n2, n3, n4, encT_eq, encFs_len, List.length_append, List.length_cons, List.length_nil, wrSt, encFs, encF_eq, hkg]
        have H := And.intro @nz_id (And.intro @nx_id (And.intro @h1 (And.intro @hsg' (And.intro @har' (And.intro @hst' (And.intro @hri' (And.intro @g1 (And.intro @g2 (And.intro @g3 (And.intro @g4 (And.intro @n1 (And.intro @n2 (And.intro @n3 (And.intro @n4 (And.intro @encT_eq (And.intro @encFs_len (And.intro @lappA (And.intro @lappB (And.intro @lcA (And.intro @lcB (And.intro @lnA @lnB)))))))))))))))))))))
        exact cutA
      | false =>
        have hb1 : b1 = false := by simp only [b1, p1, p2, Bool.false_or, Bool.false_and]
        rw [hb1]
        refine WK.draw [⟨false, 0, 0⟩, ⟨false, 0, 0⟩, ⟨false, 0, 0⟩, ⟨false, 0, 0⟩, ⟨false, 0, 0⟩, ⟨false, 0, 0⟩, ⟨false, 0, 0⟩, ⟨false, 0, 0⟩, ⟨false, 0, 0⟩, ⟨false, 0, 0⟩, ⟨false, 0, 0⟩, ⟨false, 0, 0⟩, ⟨false, 0, 0⟩, ⟨false, 0, 0⟩, ⟨false, 0, 0⟩, ⟨false, 0, 0⟩, ⟨false, 0, 0⟩, ⟨false, 0, 0⟩, ⟨false, 0, 0⟩, ⟨false, 0, 0⟩, ⟨false, 0, 0⟩, ⟨false, 0, 0⟩, ⟨false, 0, 0⟩, ⟨false, 0, 0⟩, ⟨false, 0, 0⟩, ⟨false, 0, 0⟩, ⟨false, 0, 0⟩, ⟨false, 0, 0⟩, ⟨false, 0, 0⟩, ⟨false, 0, 0⟩, ⟨false, 0, 0⟩, ⟨true, 0, 0⟩] mixed (by kernel_rfl) ?_
        simp only [go_sem, seval, reduceCtorEq, nz_id, nx_id, h1, hsg', har', hst', hri', g1, g2, g3, g4, n1, n2, n3, n4, encT_eq, encFs_len, List.length_append, List.length_cons, List.length_nil, hkg, f1, encFs, encF_eq, p1, p2]
        repeat (with_reducible refine And.intro ?_ ?_; focus omega)
        refine callD_x (inner_at0 ns g hwg false σ id _ xs k v _ l1 h1 rfl (by rw [← hb1]; omega)) rfl ?_ ?_ ?_ <;> simp only [go_sem, seval, reduceCtorEq, nz_id, nx_id, h1, hsg', har', hst', hri', g1, g2, g3, g4, n1, n2, n3, n4, encT_eq, encFs_len, List.length_append, List.length_cons, List.length_nil, hkg, encF_eq]
        simp only [go_sem, seval, reduceCtorEq, nz_id, nx_id, h1, hsg', har', hst', hri', g1, g2, g3, g4, n1, n2, n3, n4, encT_eq, encFs_len, List.length_append, List.length_cons, List.length_nil, wrSt, encFs, encF_eq, hkg]
        have H := And.intro @nz_id (And.intro @nx_id (And.intro @h1 (And.intro @hsg' (And.intro @har' (And.intro @hst' (And.intro @hri' (And.intro @g1 (And.intro @g2 (And.intro @g3 (And.intro @g4 (And.intro @n1 (And.intro @n2 (And.intro @n3 (And.intro @n4 (And.intro @encT_eq (And.intro @encFs_len (And.intro @lappA (And.intro @lappB (And.intro @lcA (And.intro @lcB (And.intro @lnA @lnB)))))))))))))))))))))
        exact cutA
    · simp only [go_sem, seval, reduceCtorEq, nz_id, nx_id, h1, hsg', har', hst', hri', g1, g2, g3, g4, n1, n2, n3, n4, encT_eq, encFs_len, List.length_append, List.length_cons, List.length_nil, wrSt, encFs, encF_eq, hkg]
      have H := And.intro @nz_id (And.intro @nx_id (And.intro @h1 (And.intro @hsg' (And.intro @har' (And.intro @hst' (And.intro @hri' (And.intro @g1 (And.intro @g2 (And.intro @g3 (And.intro @g4 (And.intro @n1 (And.intro @n2 (And.intro @n3 (And.intro @n4 (And.intro @encT_eq (And.intro @encFs_len (And.intro @lappA (And.intro @lappB (And.intro @lcA (And.intro @lcB (And.intro @lnA @lnB)))))))))))))))))))))
      refine goB ?_
      first | exact trivial | clear H
      refine WK.draw [⟨false, 0, 0⟩, ⟨false, 0, 0⟩, ⟨true, 0, 0⟩, ⟨false, 0, 0⟩, ⟨false, 1, 0⟩, ⟨false, 1, 0⟩, ⟨false, 1, 0⟩, ⟨true, 0, 0⟩, ⟨false, 0, 0⟩, ⟨true, 0, 0⟩, ⟨true, 0, 0⟩] mixed (by kernel_rfl) ?_
      simp only [go_sem, seval, reduceCtorEq, nz_id, nx_id, h1, hsg', har', hst', hri', g1, g2, g3, g4, n1, n2, n3, n4, encT_eq, encFs_len, List.length_append, List.length_cons, List.length_nil, encFs, encF_eq]
      repeat (with_reducible refine And.intro ?_ ?_; focus omega)
      have H := And.intro @nz_id (And.intro @nx_id (And.intro @h1 (And.intro @hsg' (And.intro @har' (And.intro @hst' (And.intro @hri' (And.intro @g1 (And.intro @g2 (And.intro @g3 (And.intro @g4 (And.intro @n1 (And.intro @n2 (And.intro @n3 (And.intro @n4 (And.intro @encT_eq (And.intro @encFs_len (And.intro @lappA (And.intro @lappB (And.intro @lcA (And.intro @lcB (And.intro @lnA @lnB)))))))))))))))))))))
      refine appBd ?_
      first | exact trivial | clear H
      repeat (with_reducible refine And.intro ?_ ?_; focus omega)
      have H := And.intro @nz_id (And.intro @nx_id (And.intro @h1 (And.intro @hsg' (And.intro @har' (And.intro @hst' (And.intro @hri' (And.intro @g1 (And.intro @g2 (And.intro @g3 (And.intro @g4 (And.intro @n1 (And.intro @n2 (And.intro @n3 (And.intro @n4 (And.intro @encT_eq (And.intro @encFs_len (And.intro @lappA (And.intro @lappB (And.intro @lcA (And.intro @lcB (And.intro @lnA @lnB)))))))))))))))))))))
      refine apsBd ?_
      first | exact trivial | clear H
      have H := And.intro @nz_id (And.intro @nx_id (And.intro @h1 (And.intro @hsg' (And.intro @har' (And.intro @hst' (And.intro @hri' (And.intro @g1 (And.intro @g2 (And.intro @g3 (And.intro @g4 (And.intro @n1 (And.intro @n2 (And.intro @n3 (And.intro @n4 (And.intro @encT_eq (And.intro @encFs_len (And.intro @lappA (And.intro @lappB (And.intro @lcA (And.intro @lcB (And.intro @lnA @lnB)))))))))))))))))))))
      refine appBd ?_
      first | exact trivial | clear H
      have H := And.intro @nz_id (And.intro @nx_id (And.intro @h1 (And.intro @hsg' (And.intro @har' (And.intro @hst' (And.intro @hri' (And.intro @g1 (And.intro @g2 (And.intro @g3 (And.intro @g4 (And.intro @n1 (And.intro @n2 (And.intro @n3 (And.intro @n4 (And.intro @encT_eq (And.intro @encFs_len (And.intro @lappA (And.intro @lappB (And.intro @lcA (And.intro @lcB (And.intro @lnA @lnB)))))))))))))))))))))
      refine goB ?_
      first | exact trivial | clear H
      refine WK.joinB [3] [] [] (wrSt σ id ((xs.length + ((brk b1 (wrS ns g)).length + (1 + ((signsL.getD k []).length + 1)))) + (brk b2 (wrS ns h)).length) ((xs ++ brk b1 (wrS ns g) ++ [32] ++ signsL.getD k [] ++ [32]) ++ brk b2 (wrS ns h)) ns k v (.list false (encFs [g, h]))) ?_ ?_
      · cases p1 : decide (strengthL.getD kh 0 < strengthL.getD k 0) with
        | true =>
          have hb2 : b2 = true := by simp only [b2, p1, Bool.true_or]
          rw [hb2]
          refine WK.draw [⟨false, 0, 0⟩, ⟨false, 0, 0⟩, ⟨false, 0, 0⟩, ⟨false, 0, 0⟩, ⟨false, 0, 0⟩, ⟨false, 0, 0⟩, ⟨false, 0, 0⟩, ⟨false, 0, 0⟩, ⟨false, 0, 0⟩, ⟨false, 0, 0⟩, ⟨false, 0, 0⟩, ⟨false, 0, 0⟩, ⟨false, 0, 0⟩, ⟨false, 0, 0⟩, ⟨false, 0, 0⟩, ⟨false, 0, 0⟩, ⟨false, 0, 0⟩, ⟨false, 0, 0⟩, ⟨false, 0, 0⟩, ⟨false, 0, 0⟩, ⟨false, 0, 0⟩, ⟨false, 0, 0⟩, ⟨false, 0, 0⟩, ⟨false, 0, 0⟩, ⟨false, 0, 0⟩, ⟨false, 0, 0⟩, ⟨false, 0, 0⟩, ⟨false, 0, 0⟩, ⟨false, 0, 0⟩, ⟨false, 0, 0⟩, ⟨false, 0, 0⟩, ⟨false, 0, 0⟩, ⟨true, 0, 0⟩] mixed (by kernel_rfl) ?_
          simp only [go_sem, seval, reduceCtorEq, nz_id, nx_id, h1, hsg', har', hst', hri', g1, g2, g3, g4, n1, n2, n3, n4, encT_eq, encFs_len, List.length_append, List.length_cons, List.length_nil, hkg, hkh, f2, encFs, encF_eq, p1]
          repeat (with_reducible refine And.intro ?_ ?_; focus omega)
          refine callD_x (inner_at ns h hwh true σ id (xs.length + ((brk b1 (wrS ns g)).length + (1 + ((signsL.getD k []).length + 1)))) _ (xs ++ brk b1 (wrS ns g) ++ [32] ++ signsL.getD k [] ++ [32]) k v _ l1 (by simp only [List.length_append, List.length_cons, List.length_nil]; omega) rfl (by rw [← hb2]; omega)) rfl ?_ ?_ ?_ <;> simp only [go_sem, seval, reduceCtorEq, nz_id, nx_id, h1, hsg', har', hst', hri', g1, g2, g3, g4, n1, n2, n3, n4, encT_eq, encFs_len, List.length_append, List.length_cons, List.length_nil, hkg, hkh, encF_eq]
          simp only [go_sem, seval, reduceCtorEq, nz_id, nx_id, h1, hsg', har', hst', hri', g1, g2, g3, g4, n1, n2, n3, n4, encT_eq, encFs_len, List.length_append, List.length_cons, List.length_nil, wrSt, encFs, encF_eq, hkg, hkh]
          have H := And.intro @nz_id (And.intro @nx_id (And.intro @h1 (And.intro @hsg' (And.intro @har' (And.intro @hst' (And.intro @hri' (And.intro @g1 (And.intro @g2 (And.intro @g3 (And.intro @g4 (And.intro @n1 (And.intro @n2 (And.intro @n3 (And.intro @n4 (And.intro @encT_eq (And.intro @encFs_len (And.intro @lappA (And.intro @lappB (And.intro @lcA (And.intro @lcB (And.intro @lnA @lnB)))))))))))))))))))))
          exact cutA
        | false =>
        cases p2 : (strengthL.getD kh 0 == strengthL.getD k 0) with
        | true =>
          have hb2 : b2 = !rightL.getD k false := by simp only [b2, p1, p2, Bool.false_or, Bool.true_and]
          rw [hb2]
          refine WK.draw [⟨false, 0, 0⟩, ⟨false, 0, 0⟩, ⟨false, 0, 0⟩, ⟨false, 0, 0⟩, ⟨false, 0, 0⟩, ⟨false, 0, 0⟩, ⟨false, 0, 0⟩, ⟨false, 0, 0⟩, ⟨false, 0, 0⟩, ⟨false, 0, 0⟩, ⟨false, 0, 0⟩, ⟨false, 0, 0⟩, ⟨false, 0, 0⟩, ⟨false, 0, 0⟩, ⟨false, 0, 0⟩, ⟨false, 0, 0⟩, ⟨false, 0, 0⟩, ⟨false, 0, 0⟩, ⟨false, 0, 0⟩, ⟨false, 0, 0⟩, ⟨false, 0, 0⟩, ⟨false, 0, 0⟩, ⟨false, 0, 0⟩, ⟨false, 0, 0⟩, ⟨false, 0, 0⟩, ⟨false, 0, 0⟩, ⟨false, 0, 0⟩, ⟨false, 0, 0⟩, ⟨false, 0, 0⟩, ⟨false, 0, 0⟩, ⟨false, 0, 0⟩, ⟨false, 0, 0⟩, ⟨true, 0, 0⟩] mixed (by kernel_rfl) ?_
          simp only [go_sem, seval, reduceCtorEq, nz_id, nx_id, h1, hsg', har', hst', hri', g1, g2, g3, g4, n1, n2, n3, n4, encT_eq, encFs_len, List.length_append, List.length_cons, List.length_nil, hkg, hkh, f2, encFs, encF_eq, p1, p2]
          repeat (with_reducible refine And.intro ?_ ?_; focus omega)
          refine callD_x (inner_at ns h hwh (!rightL.getD k false) σ id (xs.length + ((brk b1 (wrS ns g)).length + (1 + ((signsL.getD k []).length + 1)))) _ (xs ++ brk b1 (wrS ns g) ++ [32] ++ signsL.getD k [] ++ [32]) k v _ l1 (by simp only [List.length_append, List.length_cons, List.length_nil]; omega) rfl (by rw [← hb2]; omega)) rfl ?_ ?_ ?_ <;> simp only [go_sem, seval, reduceCtorEq, nz_id, nx_id, h1, hsg', har', hst', hri', g1, g2, g3, g4, n1, n2, n3, n4, encT_eq, encFs_len, List.length_append, List.length_cons, List.length_nil, hkg, hkh, encF_eq]
          simp only [go_sem, seval, reduceCtorEq, nz_id, nx_id, h1, hsg', har', hst', hri', g1, g2, g3, g4, n1, n2, n3, n4, encT_eq, encFs_len, List.length_append, List.length_cons, List.length_nil, wrSt, encFs, encF_eq, hkg, hkh]
          have H := And.intro @nz_id (And.intro @nx_id (And.intro @h1 (And.intro @hsg' (And.intro @har' (And.intro @hst' (And.intro @hri' (And.intro @g1 (And.intro @g2 (And.intro @g3 (And.intro @g4 (And.intro @n1 (And.intro @n2 (And.intro @n3 (And.intro @n4 (And.intro @encT_eq (And.intro @encFs_len (And.intro @lappA (And.intro @lappB (And.intro @lcA (And.intro @lcB (And.intro @lnA @lnB)))))))))))))))))))))
          exact cutA
        | false =>
          have hb2 : b2 = false := by simp only [b2, p1, p2, Bool.false_or, Bool.false_and]
          rw [hb2]
          refine WK.draw [⟨false, 0, 0⟩, ⟨false, 0, 0⟩, ⟨false, 0, 0⟩, ⟨false, 0, 0⟩, ⟨false, 0, 0⟩, ⟨false, 0, 0⟩, ⟨false, 0, 0⟩, ⟨false, 0, 0⟩, ⟨false, 0, 0⟩, ⟨false, 0, 0⟩, ⟨false, 0, 0⟩, ⟨false, 0, 0⟩, ⟨false, 0, 0⟩, ⟨false, 0, 0⟩, ⟨false, 0, 0⟩, ⟨false, 0, 0⟩, ⟨false, 0, 0⟩, ⟨false, 0, 0⟩, ⟨false, 0, 0⟩, ⟨false, 0, 0⟩, ⟨false, 0, 0⟩, ⟨false, 0, 0⟩, ⟨false, 0, 0⟩, ⟨false, 0, 0⟩, ⟨false, 0, 0⟩, ⟨false, 0, 0⟩, ⟨false, 0, 0⟩, ⟨false, 0, 0⟩, ⟨false, 0, 0⟩, ⟨false, 0, 0⟩, ⟨false, 0, 0⟩, ⟨false, 0, 0⟩, ⟨true, 0, 0⟩] mixed (by kernel_rfl) ?_
          simp only [go_sem, seval, reduceCtorEq, nz_id, nx_id, h1, hsg', har', hst', hri', g1, g2, g3, g4, n1, n2, n3, n4, encT_eq, encFs_len, List.length_append, List.length_cons, List.length_nil, hkg, hkh, f2, encFs, encF_eq, p1, p2]
          repeat (with_reducible refine And.intro ?_ ?_; focus omega)
          refine callD_x (inner_at ns h hwh false σ id (xs.length + ((brk b1 (wrS ns g)).length + (1 + ((signsL.getD k []).length + 1)))) _ (xs ++ brk b1 (wrS ns g) ++ [32] ++ signsL.getD k [] ++ [32]) k v _ l1 (by simp only [List.length_append, List.length_cons, List.length_nil]; omega) rfl (by rw [← hb2]; omega)) rfl ?_ ?_ ?_ <;> simp only [go_sem, seval, reduceCtorEq, nz_id, nx_id, h1, hsg', har', hst', hri', g1, g2, g3, g4, n1, n2, n3, n4, encT_eq, encFs_len, List.length_append, List.length_cons, List.length_nil, hkg, hkh, encF_eq]
          simp only [go_sem, seval, reduceCtorEq, nz_id, nx_id, h1, hsg', har', hst', hri', g1, g2, g3, g4, n1, n2, n3, n4, encT_eq, encFs_len, List.length_append, List.length_cons, List.length_nil, wrSt, encFs, encF_eq, hkg, hkh]
          have H := And.intro @nz_id (And.intro @nx_id (And.intro @h1 (And.intro @hsg' (And.intro @har' (And.intro @hst' (And.intro @hri' (And.intro @g1 (And.intro @g2 (And.intro @g3 (And.intro @g4 (And.intro @n1 (And.intro @n2 (And.intro @n3 (And.intro @n4 (And.intro @encT_eq (And.intro @encFs_len (And.intro @lappA (And.intro @lappB (And.intro @lcA (And.intro @lcB (And.intro @lnA @lnB)))))))))))))))))))))
          exact cutA
      · simp only [go_sem, seval, reduceCtorEq, nz_id, nx_id, h1, hsg', har', hst', hri', g1, g2, g3, g4, n1, n2, n3, n4, encT_eq, encFs_len, List.length_append, List.length_cons, List.length_nil, wrSt, encFs, encF_eq, hkg, hkh]
        have H := And.intro @nz_id (And.intro @nx_id (And.intro @h1 (And.intro @hsg' (And.intro @har' (And.intro @hst' (And.intro @hri' (And.intro @g1 (And.intro @g2 (And.intro @g3 (And.intro @g4 (And.intro @n1 (And.intro @n2 (And.intro @n3 (And.intro @n4 (And.intro @encT_eq (And.intro @encFs_len (And.intro @lappA (And.intro @lappB (And.intro @lcA (And.intro @lcB (And.intro @lnA @lnB)))))))))))))))))))))
        refine goB ?_
        first | exact trivial | clear H
        refine ⟨⟨by simp only [List.append_assoc, List.cons_append, List.nil_append]; exact .refl _, l1⟩, ?_⟩
        rw [show xs.length + ((brk b1 (wrS ns g)).length + ((signsL.getD k []).length + (2 + (brk b2 (wrS ns h)).length))) = xs.length + ((brk b1 (wrS ns g)).length + (1 + ((signsL.getD k []).length + (1 + (brk b2 (wrS ns h)).length)))) from by omega]
        have H := And.intro @nz_id (And.intro @nx_id (And.intro @h1 (And.intro @hsg' (And.intro @har' (And.intro @hst' (And.intro @hri' (And.intro @g1 (And.intro @g2 (And.intro @g3 (And.intro @g4 (And.intro @n1 (And.intro @n2 (And.intro @n3 (And.intro @n4 (And.intro @encT_eq (And.intro @encFs_len (And.intro @lappA (And.intro @lappB (And.intro @lcA (And.intro @lcB (And.intro @lnA @lnB)))))))))))))))))))))
        exact cutA
theorem nodesL_sub : ∀ {l : List Fm} {g x : Fm}, g ∈ l → x ∈ nodesF g → x ∈ nodesL l
  | f :: l, g, x, hg, hx => by
    rw [nodesL, List.mem_append]
    rcases List.mem_cons.1 hg with rfl | hg
    · exact .inl hx
    · exact .inr (nodesL_sub hg hx)
theorem nodes_self (f : Fm) : f ∈ nodesF f := by cases f; simp [nodesF]
theorem write_ok (har : gl.at' 0 = arityA) (hst : gl.at' 1 = strengthA) (hri : gl.at' 2 = rightA) (hsg : gl.at' 3 = signsA) (ns : List Bs) (hns : ns.length < 1000) (f : Fm) :
    (∀ g ∈ nodesF f, okNode ns.length g = true) → WrOK gl ns f := by
  induction f using Fm.ind with
  | h o v l ih =>
    intro hok
    have hsub : ∀ g ∈ l, ∀ x ∈ nodesF g, okNode ns.length x = true := fun g hg x hx => hok x (by rw [nodesF]; exact List.mem_cons_of_mem _ (nodesL_sub hg hx))
    refine write_k har hst hri hsg ns hns o v l (hok _ (nodes_self _)) (fun g hg => ?_) fun g hg => ih g hg (hsub g hg)
    have hx := hsub g hg g (nodes_self _)
    obtain ⟨o', v', l'⟩ := g
    rw [okNode_eq] at hx
    simp only [Bool.and_eq_true] at hx
    have c1 := of_decide_eq_true hx.1.1.1
    have c2 := of_decide_eq_true hx.1.1.2
    exact ⟨c1, by show o' < 14; omega⟩
/-- What Print answers. -/
def printS (ns : List Bs) (f : Fm) : Bs × Int := if namedS ns ≠ 0 then ([], namedS ns) else if validF f ns.length then (wrS ns f, 0) else ([], 1)
theorem print_ok (hsg : gl.at' 3 = signsA) (har : gl.at' 0 = arityA) (hst : gl.at' 1 = strengthA) (hri : gl.at' 2 = rightA)
    (ns : List Bs) (f : Fm) (hf : Shrt f) (hns : ns.length < 1000000) (hnl : ∀ s ∈ ns, s.length < 1000000000) (hlen : namedS ns = 0 → validF f ns.length = true → (wrS ns f).length < 1000000) :
    PCall (C gl) 39 [.list false (ns.map encT), encF f] (.tup [.str (tx (printS ns f).1), .int .i64 (printS ns f).2]) := by
  refine pcallX (callX_of b39 (by simp [Tryd.ntmps39]) ?_) (by simp only [AllCl, cl_encF, cl_list, and_true]; exact of_eq_true (clE_T _)) (by simp only [cl_tup, AllCl, cl_str, cl_int, and_true])
  refine W.of ?_
  rw [Tryd.ntmps39]
  simp only [toK, codeOf, Tryd.f39, go_sem, seval, reduceCtorEq]
  have H := @encF_eq
  refine goB ?_
  first | exact trivial | clear H
  refine callK_pureL (named_ok (gl := gl) ns (by omega) hnl) rfl ?_ ?_ ?_ <;> simp only [go_sem, seval, reduceCtorEq, encF_eq, List.length_map]
  cases hn : (namedS ns == 0) with
  | false =>
    have hn' : namedS ns ≠ 0 := by simpa using hn
    have e : printS ns f = ([], namedS ns) := by rw [printS, if_pos hn']
    rw [e]
    have H := And.intro @encF_eq @hn
    refine goB ?_
    first | exact trivial | clear H
    exact cut_none _
  | true =>
    have hn' : namedS ns = 0 := eq_of_beq hn
    have H := And.intro @encF_eq @hn
    refine goB ?_
    first | exact trivial | clear H
    refine callK_pureL (valid_ok har f hf ns.length) rfl ?_ ?_ ?_ <;> simp only [go_sem, seval, reduceCtorEq, encF_eq, List.length_map, encF_eq]
    cases hv : validF f ns.length with
    | false =>
      have e : printS ns f = ([], 1) := by rw [printS, if_neg (by simp [hn']), hv]; rfl
      rw [e]
      have H := And.intro @encF_eq @hv
      refine goB ?_
      first | exact trivial | clear H
      exact cut_none _
    | true =>
      have e : printS ns f = (wrS ns f, 0) := by rw [printS, if_neg (by simp [hn']), hv]; rfl
      rw [e]
      have H := And.intro @encF_eq @hv
      refine goB ?_
      first | exact trivial | clear H
      have hok := (validF_iff f ns.length).1 hv
      have hns6 : ns.length < 1000 := by have := hok.2.1; omega
      have hw := write_ok har hst hri hsg ns hns6 f hok.2.2.2
      refine callK_x0 (CallX.own0 1 (hw 1 [] ((Sto.none.add (.box [.int .i64 f.op, .int .i64 f.var, .list false (encFs f.args)])).add (.tok 1 0)) (by rfl) (by exact Nat.lt_succ_self 1) (by simpa using hlen hn' hv))) rfl ?_ ?_ ?_ <;> simp only [go_sem, seval, reduceCtorEq, encF_eq, List.length_map, encF_eq]
      have H := @encF_eq
      refine goB ?_
      first | exact trivial | clear H
      exact cut_none _
end
end Go.Sx
