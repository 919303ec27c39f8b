/- Lg, part H2: interface values compared with nil, type assertions, bytes to a text. -/
import Derived.Test.YtndchmmclfidgaaDoorLgH
import Derived.Laws.BytesString
set_option linter.unusedVariables false
set_option linter.unusedSimpArgs false
namespace Go.Lg
open Go.RowKit
variable {C : Cx} {ρ : Operand → AV} {σ : Sto} {o : Oper}

theorem run_equal_nili {t : TypeId} {ti : TyI} {ms} (ht : C.ty t = some ti) (hd : ti.desc = .interface ms) (w : World) : (Op.equal t .nilIface .nilIface).run C.P w = .ok true w := by
  have e : Op.equal t .nilIface .nilIface = Op.equalIn (9999 + 1) t .nilIface .nilIface := rfl
  rw [e]
  generalize 9999 = d
  simp only [Op.equalIn, Sem.run_bind, C.run_und ht, Result.andThen_ok, hd, Sem.run_pure]
theorem run_equal_iface {t t2 : TypeId} {ti : TyI} {ms} {v : Value} (ht : C.ty t = some ti) (hd : ti.desc = .interface ms) (w : World) : (Op.equal t (.iface t2 v) .nilIface).run C.P w = .ok false w := by
  have e : Op.equal t (.iface t2 v) .nilIface = Op.equalIn (9999 + 1) t (.iface t2 v) .nilIface := rfl
  rw [e]
  generalize 9999 = d
  simp only [Op.equalIn, Sem.run_bind, C.run_und ht, Result.andThen_ok, hd, Sem.run_pure]
theorem run_eqGuard_nili {p : Prop} [Decidable p] {t : TypeId} {ti : TyI} {ms} (ht : C.ty t = some ti) (hd : ti.desc = .interface ms) (hms : ms.isEmpty = true) (w : World) (u : Sem Unit) :
    (if p then pure () else (do if ← Op.eqGuardIn Op.maxDepth t .nilIface .nilIface then u else pure ()) : Sem Unit).run C.P w = .ok () w := by
  split
  · rw [Sem.run_pure]
  · have e : Op.eqGuardIn Op.maxDepth t .nilIface .nilIface = Op.eqGuardIn (9999 + 1) t .nilIface .nilIface := rfl
    rw [e]
    generalize 9999 = d
    simp only [Op.eqGuardIn, Sem.run_bind, C.run_und ht, Result.andThen_ok, hd, Sem.run_pure, hms, Bool.not_true, Bool.false_eq_true, if_false]
theorem run_eqGuard_iface {p : Prop} [Decidable p] {t t2 : TypeId} {ti : TyI} {ms} {v : Value} (ht : C.ty t = some ti) (hd : ti.desc = .interface ms) (w : World) (u : Sem Unit) :
    (if p then pure () else (do if ← Op.eqGuardIn Op.maxDepth t (.iface t2 v) .nilIface then u else pure ()) : Sem Unit).run C.P w = .ok () w := by
  split
  · rw [Sem.run_pure]
  · have e : Op.eqGuardIn Op.maxDepth t (.iface t2 v) .nilIface = Op.eqGuardIn (9999 + 1) t (.iface t2 v) .nilIface := rfl
    rw [e]
    generalize 9999 = d
    simp only [Op.eqGuardIn, Sem.run_bind, C.run_und ht, Result.andThen_ok, hd, Sem.run_pure, Bool.false_eq_true, if_false]
theorem snd_bin_nili {op : BinOp} {t t' : TypeId} {ti : TyI} {ms} {x y : Operand} (ht : C.ty t = some ti) (hd : ti.desc = .interface ms) (hms : ms.isEmpty = true) (ho : o.op = .binOp op t x y t') (hx : ρ x = .nili) (hy : ρ y = .nili) :
    Snd C o ρ σ ⟨op = .eql ∨ op = .neq, .bool (if op = .eql then true else false), σ⟩ :=
  snd_pure fun hc w0 G a w hi hr => by
    have e1 := hr x (by simp [ho, Op.operands])
    rw [hx] at e1
    generalize h1 : a.eval x = X at e1
    have e2 := hr y (by simp [ho, Op.operands])
    rw [hy] at e2
    generalize h2 : a.eval y = Y at e2
    cases e1; cases e2
    rcases hc with rfl | rfl
    · exact ⟨.bool true, by simp only [execOp, ho, h1, h2, eqGuard, binOp, Sem.run_bind, Sem.run_pure, run_equal_nili ht hd, run_eqGuard_nili ht hd hms, Result.andThen_ok, Bool.not_true, Bool.false_eq_true, if_true, if_false], .bool _⟩
    · exact ⟨.bool false, by simp only [execOp, ho, h1, h2, eqGuard, binOp, Sem.run_bind, Sem.run_pure, run_equal_nili ht hd, run_eqGuard_nili ht hd hms, Result.andThen_ok, Bool.not_true, Bool.false_eq_true, if_true, if_false], .bool _⟩
theorem snd_bin_iface {op : BinOp} {t t' t2 : TypeId} {ti : TyI} {ms} {x y : Operand} {v : AV} (ht : C.ty t = some ti) (hd : ti.desc = .interface ms) (ho : o.op = .binOp op t x y t') (hx : ρ x = .iface t2 v) (hy : ρ y = .nili) :
    Snd C o ρ σ ⟨op = .eql ∨ op = .neq, .bool (if op = .eql then false else true), σ⟩ :=
  snd_pure fun hc w0 G a w hi hr => by
    have e1 := hr x (by simp [ho, Op.operands])
    rw [hx] at e1
    generalize h1 : a.eval x = X at e1
    have e2 := hr y (by simp [ho, Op.operands])
    rw [hy] at e2
    generalize h2 : a.eval y = Y at e2
    cases e1; cases e2
    rcases hc with rfl | rfl
    · exact ⟨.bool false, by simp only [execOp, ho, h1, h2, eqGuard, binOp, Sem.run_bind, Sem.run_pure, run_equal_iface ht hd, run_eqGuard_iface ht hd, Result.andThen_ok, Bool.not_true, Bool.false_eq_true, if_true, if_false], .bool _⟩
    · exact ⟨.bool true, by simp only [execOp, ho, h1, h2, eqGuard, binOp, Sem.run_bind, Sem.run_pure, run_equal_iface ht hd, run_eqGuard_iface ht hd, Result.andThen_ok, Bool.not_true, Bool.false_eq_true, if_true, if_false]; rfl, .bool _⟩
theorem snd_typeAssert {t t' : TypeId} {ti : TyI} {x : Operand} {v : AV} (ht : C.ty t = some ti) (ho : o.op = .typeAssert x t' t true) (hx : ρ x = .iface t v) :
    Snd C o ρ σ ⟨∀ ms, ti.desc ≠ .interface ms, .tup [v, .bool true], σ⟩ :=
  snd_pure fun hc w0 G a w hi hr => by
    have e1 := hr x (by simp [ho, Op.operands])
    rw [hx] at e1
    generalize h1 : a.eval x = X at e1
    cases e1 with
    | iface _ _ V hv =>
    refine ⟨.tuple #[V, .bool true], ?_, .tup _ _ rfl fun i c u hc hu => ?_⟩
    · simp only [execOp, ho, h1, Instr.typeAssert, Sem.run_bind, C.run_und ht, Result.andThen_ok]
      cases h : ti.desc with
      | interface ms => exact absurd h (hc ms)
      | _ => simp
    · match i, hc, hu with
      | 0, hc, hu => simp at hc hu; subst hc; subst hu; exact hv
      | 1, hc, hu => simp at hc hu; subst hc; subst hu; exact .bool _
      | i + 2, hc, hu => simp at hc

/-- A byte. -/
def AV.isU8 : AV → Bool
  | .int .u8 _ => true
  | _ => false
theorem AV.isU8_eq {x : AV} (h : x.isU8 = true) : x = .int .u8 x.theI := by
  unfold AV.isU8 at h
  split at h
  · rfl
  · cases h
/-- The text of these bytes. -/
def byA (xs : List AV) : ByteArray := (xs.map AV.theI).foldl (fun r n => r.push (UInt8.ofNat n.toNat)) ByteArray.empty
theorem flat_u8 : ∀ {xs : List AV}, xs.all AV.isU8 = true → flat xs = xs
  | [], _ => rfl
  | x :: xs, h => by
    simp only [List.all_cons, Bool.and_eq_true] at h
    have e := AV.isU8_eq h.1
    rw [e]
    show (AV.int .u8 x.theI).cells ++ flat xs = _
    rw [flat_u8 h.2]; rfl
theorem snd_bytes {src dst e : TypeId} {si di ei : TyI} {x : Operand} {f : Bool} {xs : List AV} (hs : C.ty src = some si) (hse : si.desc = .slice e) (he : C.ty e = some ei) (hu : ei.desc = .int .u8) (hd : C.ty dst = some di) (hq : di.desc = .string)
    (ho : o.op = .convert src dst x) (hx : ρ x = .list f xs) : Snd C o ρ σ ⟨xs.all AV.isU8 = true, .str (byA xs), σ⟩ :=
  snd_pure fun hc w0 G a w hi hr => by
    have e1 := hr x (by simp [ho, Op.operands])
    rw [hx] at e1
    generalize h1 : a.eval x = X at e1
    have hel : ∀ y ∈ xs, y.cells.length = 1 := fun y hy => by rw [AV.isU8_eq (List.all_eq_true.1 hc y hy)]; rfl
    have hone : ∀ y ∈ xs, y.cells.all AV.one = true := fun y hy => by rw [AV.isU8_eq (List.all_eq_true.1 hc y hy)]; rfl
    refine ⟨.string (byA xs), ?_, .str _⟩
    have key : (Conv.bytesToString X).run C.P w = .ok (.string (byA xs)) w := by
      cases X with
      | slice ad len cap =>
        obtain ⟨news, n1, n2, n3⟩ := list_cells e1 hel hone
        rw [flat_u8 hc] at n1
        have hl : len = xs.length := by cases e1 <;> first | rfl | (symm; assumption)
        have hnews : news = (xs.map AV.theI).map (Value.int .u8) := by
          apply List.ext_getElem?
          intro i
          have hsz : news.length = xs.length := by simpa using n1.1
          by_cases hi2 : i < xs.length
          · obtain ⟨v, hv, hrep⟩ := n1.2 i xs[i] (List.getElem?_eq_getElem hi2)
            have hv : news[i]? = some v := by simpa using hv
            rw [AV.isU8_eq (List.all_eq_true.1 hc _ (List.getElem_mem hi2))] at hrep
            cases hrep
            rw [hv]; simp [hi2]
          · rw [List.getElem?_eq_none (by omega), List.getElem?_eq_none (by simp; omega)]
        cases ad with
        | none =>
          have : news = [] := by
            cases hn : news with
            | nil => rfl
            | cons v vs => obtain ⟨b, o', hb, _⟩ := n3 0 v (by simp [hn]); cases hb
          have hx0 : xs = [] := by
            rw [this] at hnews
            cases xs with
            | nil => rfl
            | cons y ys => simp at hnews
          subst hx0
          simp [Conv.bytesToString, Sem.run_pure, byA]
        | some ad =>
          have hlc : (loadCells ad len).run C.P w = .ok ((xs.map AV.theI).map (Value.int .u8)).toArray w := by
            have := run_loadCells_list (P := C.P) w ad news fun j v hj => by
              obtain ⟨b, o', hb, hI⟩ := n3 j v hj
              cases hb
              rw [add_at]
              exact hi.imm _ _ _ hI
            have hsz : news.length = len := by rw [hl]; simpa using n1.1
            rw [hsz, hnews] at this
            exact this
          exact run_bytesToString w ad len cap _ hlc
      | _ => cases e1
    have hX : ∃ ad len cap, X = .slice ad len cap := by
      cases X with
      | slice ad len cap => exact ⟨_, _, _, rfl⟩
      | _ => cases e1
    obtain ⟨ad, len, cap, rfl⟩ := hX
    cases ad with
    | none => simp only [execOp, ho, h1, convert, Sem.run_bind, C.run_und hs, C.run_und hd, C.run_und he, hse, hq, hu, Result.andThen_ok, key, Sem.run_pure]
    | some ad => simp only [execOp, ho, h1, convert, Sem.run_bind, C.run_und hs, C.run_und hd, C.run_und he, hse, hq, hu, Result.andThen_ok, key, Sem.run_pure]
end Go.Lg
