/- Lg, part H4: ranging over a string. -/
import Derived.Test.YtndchmmclfidgaaDoorLgG2
set_option linter.unusedVariables false
set_option linter.unusedSimpArgs false
namespace Go.Lg
open Go.RowKit
variable {C : Cx} {ρ : Operand → AV} {σ : Sto} {o : Oper}
def isStT (C : Cx) (t : TypeId) : Bool := match C.ty t with | some ti => (match ti.desc with | .string => true | _ => false) | none => false
theorem isStT_run {t : TypeId} (h : isStT C t = true) : ∃ ti, C.ty t = some ti ∧ ti.desc = .string := by
  unfold isStT at h
  cases e : C.ty t with
  | none => rw [e] at h; cases h
  | some ti =>
    rw [e] at h
    refine ⟨ti, rfl, ?_⟩
    simp only at h
    split at h
    · assumption
    · cases h
theorem snd_range {t : TypeId} {x : Operand} {s : ByteArray} (ho : o.op = .range t x) (hx : ρ x = .str s) : Snd C o ρ σ ⟨isStT C t = true, .ptr σ.next 0, σ.add (.itr s 0)⟩ := by
  intro hc w0 G a w hi hr
  obtain ⟨ti, ht, hd⟩ := isStT_run hc
  have hv := hr x (by simp [ho, Op.operands])
  rw [hx] at hv
  have hv : a.eval x = .string s := by cases hv' : a.eval x <;> rw [hv'] at hv <;> cases hv; rfl
  refine ⟨G.new σ.next ⟨w.heap.size, 0, 0, 0⟩, .value (.pointer (some ⟨w.heap.size, 0, none⟩)), _, w.alloc (.stringIter s 0), ?_, .inl rfl, .ptr _ _ ⟨w.heap.size, 0, 0, 0⟩ (by simp [Gh.new]), ?_, Ext.new hi (σ.next + 1) _ _ _ (by omega) rfl⟩
  · simp [execOp, ho, Instr.range, C.run_und ht, hd, hv, newObj, Sem.run, Result.andThen]
  · refine Inv.new hi σ.next (σ.next + 1) (.itr s 0) _ _ (by omega) (by omega) (hi.fresh _ (Nat.le_refl _)) rfl ?_
    refine ⟨heap_alloc_new w _, fun k => ?_⟩
    show G.I w.heap.size k = none
    cases hI : G.I w.heap.size k with
    | none => rfl
    | some v => have := hi.imm_lt hI; omega
def nxtV (s : ByteArray) (pos : Nat) : AV := .tup [.bool true, .int .i64 pos, .int .i32 (Utf8.decode s pos).1]
theorem getObj_itr {P : Program} {w : World} {r : Nat} {s : ByteArray} {pos : Nat} (hb : w.heap[r]? = some (.stringIter s pos)) : (getObj r).run P w = .ok (.stringIter s pos) w := by
  simp [getObj, Sem.run, hb]
theorem setObj_itr {P : Program} {w : World} {r : Nat} {s : ByteArray} {pos : Nat} (o : Obj) (hb : w.heap[r]? = some (.stringIter s pos)) : (setObj r o).run P w = .ok () (w.putObj r o) := by
  simp [setObj, Sem.run, hb, World.putObj]
theorem snd_next {x : Operand} {id : Nat} {s : ByteArray} {pos : Nat} (ho : o.op = .next x true) (hx : ρ x = .ptr id 0) (hs : σ.get id = some (.itr s pos)) (hp : pos < s.size) :
    Snd C o ρ σ ⟨True, nxtV s pos, σ.set id (.itr s (pos + (Utf8.decode s pos).2))⟩ := by
  intro hc w0 G a w hi hr
  have hv := hr x (by simp [ho, Op.operands])
  rw [hx] at hv
  generalize hu : a.eval x = u at hv
  cases hv with
  | ptr _ _ B hj =>
    obtain ⟨_, h1, h2⟩ := hi.obj id _ B hs hj
    have hlt := (Array.getElem?_eq_some_iff.1 h1).1
    refine ⟨G, .value (.tuple #[.bool true, .int .i64 pos, .int .i32 (Utf8.decode s pos).1]), _, w.putObj B.b (.stringIter s (pos + (Utf8.decode s pos).2)), ?_, .inl rfl, ?_, ?_, ?_⟩
    · simp [execOp, ho, Instr.next, hu, getObj_itr h1, hp, setObj_itr _ h1, goInt, Result.andThen]
    · refine .tup _ _ rfl fun i c v hc hv => ?_
      match i with
      | 0 => simp at hc hv; subst hc; subst hv; exact .bool _
      | 1 => simp at hc hv; subst hc; subst hv; exact .int _ _
      | 2 => simp at hc hv; subst hc; subst hv; exact .int _ _
      | i + 3 => simp at hc
    · refine Inv.set hi id _ _ B hs hj rfl rfl rfl (by simp) (fun b' hb' => World.putObj_heap_other hb') (fun k' v' hk' => by rw [h2 k'] at hk'; cases hk') ?_
      exact ⟨World.putObj_heap_same hlt, h2⟩
    · exact Ext.set id _ _ B hs hj (by simp) (fun b' hb' => World.putObj_heap_other hb')
theorem snd_over {x : Operand} {id : Nat} {s : ByteArray} {pos : Nat} (ho : o.op = .next x true) (hx : ρ x = .ptr id 0) (hs : σ.get id = some (.itr s pos)) (hp : ¬ pos < s.size) : Snd C o ρ σ ⟨True, .tup [.bool false], σ⟩ :=
  snd_pure fun _ w0 G a w hi hr => by
    have hv := hr x (by simp [ho, Op.operands])
    rw [hx] at hv
    generalize hu : a.eval x = u at hv
    cases hv with
    | ptr _ _ B hj =>
      obtain ⟨_, h1, h2⟩ := hi.obj id _ B hs hj
      refine ⟨.tuple #[.bool false], ?_, ?_⟩
      · simp [execOp, ho, Instr.next, hu, getObj_itr h1, hp, Result.andThen]
      · refine .tup _ _ rfl fun i c v hc hv => ?_
        match i with
        | 0 => simp at hc hv; subst hc; subst hv; exact .bool _
        | i + 1 => simp at hc
end Go.Lg
