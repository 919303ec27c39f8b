import Derived.Test.YtlhdjjnjhpfgoaaDoorQTkE
import Derived.Test.YtlhdjjnjhpfgoaaDoorQGvA
import Derived.Test.YtlhdjjnjhpfgoaaDoorLgAw
set_option maxRecDepth 100000
set_option linter.unusedSimpArgs false
set_option linter.unusedVariables false
set_option linter.unnecessarySimpa false
namespace Go.Lg
theorem CallX.own0 {C : Cx} {f : FuncId} {rest : List AV} {σ σ1 : Sto} {r : AV} (es : Nat) (h : CallX C f (.own σ.next [] :: rest) (σ.add (.tok es 0)) r σ1) : CallX C f (.list true [] :: rest) σ r σ1 := by
  refine ⟨h.here, fun w0 G w V hi hV hrep => ?_⟩
  have hlt : 0 < V.size := by rw [hV]; exact Nat.succ_pos _
  have h0 := hrep 0 _ V[0] rfl (Array.getElem?_eq_getElem hlt)
  obtain ⟨G', k1, k2, k3, k4⟩ := own_new hi h0 es
  refine (h.call w0 G' w V k3 hV fun i x v hx hv => ?_).mono ?_
  · cases i with
    | zero =>
      simp only [List.getElem?_cons_zero, Option.some.injEq] at hx
      subst hx
      rw [Array.getElem?_eq_getElem hlt] at hv
      cases hv
      exact k2
    | succ i => exact (hrep (i + 1) x v hx hv).mono k1
  · rintro e w' ⟨G2, v, g1, g2, g3, g4⟩
    exact ⟨G2, v, g1, g2, g3, k4.trans g4⟩
theorem appK_str {C : Cx} {nt : Nat} {d : Option Nat} {rs : List RO} {K : Env → Sto → Prop} {env : Env} {σ : Sto} {s x : Operand} {t t2 : TypeId} {ei : TyI} {id es n : Nat} {xs : List AV} {b : ByteArray}
    (hs : slE C t = some ei) (hv : ev C nt env s = .own id xs) (hg : σ.get id = some (.tok es n)) (he : es = ei.size) (hn : n = xs.length) (hok : OKEs es xs) (hx : ev C nt env x = .str b) (ht2 : isStrT C t2 = true) (h1 : ei.size = 1)
    (hz : ei.zero.cells.size = ei.size) (hb : (n + (bytesAV b).length) * ei.bytes ≤ 140737488355328) (hb2 : n + (bytesAV b).length ≤ 9223372036854775807)
    (hk : wpr C nt rs K (putA env d (.own id (xs ++ bytesAV b))) (σ.set id (.tok es (n + (bytesAV b).length)))) : appK C nt d #[s, x] #[t, t2] rs K env σ := by
  subst he
  have hsrc : srcA C σ t2 ei.size (ev C nt env x) = (isStrT C t2 = true ∧ ei.size = 1, bytesAV b) := by rw [hx]; rfl
  have e : aop C (ev C nt env) σ (.call ⟨.builtin .append, #[s, x], #[t, t2]⟩) = appA C σ t2 ei (ev C nt env s) (ev C nt env x) := by
    show (match slE C t with | some ei => appA C σ t2 ei (ev C nt env s) (ev C nt env x) | none => bad σ) = _
    rw [hs]
  refine appK_aop ?_
  rw [e, hv]
  simp only [appA, hg, hsrc]
  exact ⟨⟨⟨ht2, h1⟩, hn, trivial, fun x hx => (hok x hx).1, fun x hx => (hok x hx).2, hz, by rw [← hn]; exact hb, by rw [← hn]; exact hb2⟩, by rw [← hn] at *; exact hk⟩
theorem appD_str {C : Cx} {nt : Nat} {d : Option Nat} {rs : List (RO × DF)} {hist : List Sto} {ob : Obl} {K : Env → Sto → Prop} {env : Env} {σ : Sto} {s x : Operand} {t t2 : TypeId} {ei : TyI} {id es n : Nat} {xs : List AV} {b : ByteArray}
    (hs : slE C t = some ei) (hv : ev C nt env s = .own id xs) (hg : σ.get id = some (.tok es n)) (he : es = ei.size) (hn : n = xs.length) (hok : OKEs es xs) (hx : ev C nt env x = .str b) (ht2 : isStrT C t2 = true) (h1 : ei.size = 1)
    (hz : ei.zero.cells.size = ei.size) (hb : (n + (bytesAV b).length) * ei.bytes ≤ 140737488355328) (hb2 : n + (bytesAV b).length ≤ 9223372036854775807)
    (hk : oblOK (σ.set id (.tok es (n + (bytesAV b).length))) ob ∧ wpD C nt K rs (σ :: hist) (oblDec ob) (putA env d (.own id (xs ++ bytesAV b))) (σ.set id (.tok es (n + (bytesAV b).length)))) : appD C nt d #[s, x] #[t, t2] rs hist ob K env σ := by
  subst he
  have hsrc : srcA C σ t2 ei.size (ev C nt env x) = (isStrT C t2 = true ∧ ei.size = 1, bytesAV b) := by rw [hx]; rfl
  have e : aop C (ev C nt env) σ (.call ⟨.builtin .append, #[s, x], #[t, t2]⟩) = appA C σ t2 ei (ev C nt env s) (ev C nt env x) := by
    show (match slE C t with | some ei => appA C σ t2 ei (ev C nt env s) (ev C nt env x) | none => bad σ) = _
    rw [hs]
  refine appD_aop ?_
  rw [e, hv]
  simp only [appA, hg, hsrc]
  exact ⟨⟨⟨ht2, h1⟩, hn, trivial, fun x hx => (hok x hx).1, fun x hx => (hok x hx).2, hz, by rw [← hn]; exact hb, by rw [← hn]; exact hb2⟩, hk.1, hk.2⟩
theorem u8L_a32 (a : Bs) : u8L a ++ [AV.int .u8 32] = u8L (a ++ [32]) := by rw [← u8L_app]; rfl
theorem u8L_a40 (a : Bs) : u8L a ++ [AV.int .u8 40] = u8L (a ++ [40]) := by rw [← u8L_app]; rfl
theorem u8L_a41 (a : Bs) : u8L a ++ [AV.int .u8 41] = u8L (a ++ [41]) := by rw [← u8L_app]; rfl
attribute [go_sem] u8L_app u8L_a32 u8L_a40 u8L_a41
end Go.Lg
namespace Go.Sx
open Go Go.Lg Go.Proofs

/-! ## What is written -/
def signAt (o : Int) : Bs := signsL.getD o.toNat []
def arAt (o : Int) : Int := arityL.getD o.toNat 0
def stAt (o : Int) : Int := strengthL.getD o.toNat 0
def riAt (o : Int) : Bool := rightL.getD o.toNat false
def brk (b : Bool) (s : Bs) : Bs := if b then [40] ++ s ++ [41] else s
def wrC (ns : List Bs) (o v : Int) (cs : List (Int × Bs)) : Bs :=
  if arAt o == 0 then (if o == 2 then ns.getD v.toNat [] else signAt o)
  else if arAt o == 1 then (signAt o ++ if o == 3 then [] else [32]) ++ (match cs with | (p, s) :: _ => brk (arAt p == 2) s | _ => [])
  else match cs with
    | (p, s) :: (q, t) :: _ => brk (decide (stAt p < stAt o) || ((stAt p == stAt o) && riAt o)) s ++ ([32] ++ signAt o ++ [32]) ++ brk (decide (stAt q < stAt o) || ((stAt q == stAt o) && !riAt o)) t
    | _ => []
mutual
def wrS (ns : List Bs) : Fm → Bs
  | .mk o v l => wrC ns o v (wrL ns l)
def wrL (ns : List Bs) : List Fm → List (Int × Bs)
  | [] => []
  | f :: l => (f.op, wrS ns f) :: wrL ns l
end
section
variable {gl : GL}
theorem u8t138 : isU8T (C gl) 64 = true := by kernel_rfl
attribute [go_sem] u8t138
/-- The store while a formula is written. -/
def wrSt (σ : Sto) (id n : Nat) (ys : Bs) (ns : List Bs) (o v : Int) (L : AV) : Sto :=
  (((σ.set id (.tok 1 n)).add (.box [.own id (u8L ys)])).add (.box [.list false (ns.map encT)])).add (.box [.int .i64 o, .int .i64 v, L])
theorem arL_nat : ∀ o : Nat, o < 14 → arityL.getD o 0 = 0 ∨ arityL.getD o 0 = 1 ∨ arityL.getD o 0 = 2 := by decide
theorem okNode_eq (n o v : Int) (l : List Fm) : okNode n (.mk o v l) = (decide (0 ≤ o) && decide (o ≤ 13) && decide ((l.length : Int) = arityL.getD o.toNat 0) && (if o = 2 then decide (0 ≤ v) && decide (v < n) else decide (v = 0))) := (rfl)
set_option maxHeartbeats 2000000 in
theorem nodesL_sub : ∀ {l : List Fm} {g x : Fm}, g ∈ l → x ∈ nodesF g → x ∈ nodesL l
  | f :: l, g, x, hg, hx => by
    rw [nodesL, List.mem_append]
    rcases List.mem_cons.1 hg with rfl | hg
    · exact .inl hx
    · exact .inr (nodesL_sub hg hx)
theorem nodes_self (f : Fm) : f ∈ nodesF f := by cases f; simp [nodesF]
/-- What Print answers. -/
def printS (ns : List Bs) (f : Fm) : Bs × Int := if namedS ns ≠ 0 then ([], namedS ns) else if validF f ns.length then (wrS ns f, 0) else ([], 1)
end
end Go.Sx
