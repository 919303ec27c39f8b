import Derived.Test.YtlhdjjnjhpfgoaaDoorQTkA
import Derived.Test.YtlhdjjnjhpfgoaaDoorLgAw
set_option maxRecDepth 100000
set_option linter.unusedSimpArgs false
set_option linter.unusedVariables false
set_option linter.unnecessarySimpa false
namespace Go.Sx
open Go Go.Lg Go.Proofs

theorem b51 {gl : GL} : Body (C gl).P 51 Tryd.f51 (codeOf Tryd.f51) := ⟨Tryd.func51, by kernel_rfl, by kernel_rfl⟩
theorem b65 {gl : GL} : Body (C gl).P 65 Tryd.f65 (codeOf Tryd.f65) := ⟨Tryd.func65, by kernel_rfl, by kernel_rfl⟩
theorem b23 {gl : GL} : Body (C gl).P 23 Tryd.f23 (codeOf Tryd.f23) := ⟨Tryd.func23, by kernel_rfl, by kernel_rfl⟩
theorem b66 {gl : GL} : Body (C gl).P 66 Tryd.f66 (codeOf Tryd.f66) := ⟨Tryd.func66, by kernel_rfl, by kernel_rfl⟩
theorem b67 {gl : GL} : Body (C gl).P 67 Tryd.f67 (codeOf Tryd.f67) := ⟨Tryd.func67, by kernel_rfl, by kernel_rfl⟩
/-! ## Words of a text -/
def lowI (b : Int) : Bool := decide (b ≥ 97) && decide (b ≤ 122)
def idI (b : Int) : Bool := lowI b || (decide (b ≥ 48) && decide (b ≤ 57))
def idC (c : UInt8) : Bool := idI (c.toNat : Int)
def idW (l : Bs) : Nat := (l.takeWhile idC).length
def iffT : Bs := [60, 45, 62]
def impT : Bs := [45, 62]
def tokLen (l : Bs) : Nat := if pre l iffT then 3 else if pre l impT then 2 else if lowI (byI l 0) then 1 + idW (l.drop 1) else 1
def toksF : Nat → Bs → List Bs
  | 0, _ => []
  | _ + 1, [] => []
  | n + 1, c :: r => if (c.toNat : Int) == 32 then toksF n r else (c :: r).take (tokLen (c :: r)) :: toksF n ((c :: r).drop (tokLen (c :: r)))
def toksS (s : Bs) : List Bs := toksF s.length s
theorem tokLen_pos (l : Bs) : 0 < tokLen l := by
  unfold tokLen
  repeat' split
  all_goals omega
theorem idW_le (l : Bs) : idW l ≤ l.length := (List.takeWhile_sublist _).length_le
theorem pre_len {l p : Bs} (h : pre l p = true) : p.length ≤ l.length := by
  have := congrArg List.length (eq_of_beq h)
  rw [List.length_take] at this; omega
theorem tokLen_le (c : UInt8) (r : Bs) : tokLen (c :: r) ≤ (c :: r).length := by
  unfold tokLen
  split
  · rename_i h; exact pre_len h
  split
  · rename_i h; exact pre_len h
  split
  · have := idW_le ((c :: r).drop 1)
    simp only [List.length_drop, List.length_cons] at this ⊢
    omega
  · simp
theorem toksF_fuel : ∀ (n m : Nat) (l : Bs), l.length ≤ n → l.length ≤ m → toksF n l = toksF m l
  | 0, m, l, h, _ => by
    have : l = [] := List.length_eq_zero_iff.1 (by omega)
    subst this
    cases m <;> rfl
  | n + 1, 0, l, _, h => by
    have : l = [] := List.length_eq_zero_iff.1 (by omega)
    subst this
    rfl
  | n + 1, m + 1, [], _, _ => rfl
  | n + 1, m + 1, c :: r, h1, h2 => by
    have hp := tokLen_pos (c :: r)
    simp only [List.length_cons] at h1 h2
    have hd : ((c :: r).drop (tokLen (c :: r))).length ≤ r.length := by rw [List.length_drop, List.length_cons]; omega
    simp only [toksF]
    rw [toksF_fuel n m r (by omega) (by omega), toksF_fuel n m _ (by omega) (by omega)]
theorem toksS_nil : toksS [] = [] := (rfl)
theorem toksS_sp {c : UInt8} {r : Bs} (h : ((c.toNat : Int) == 32) = true) : toksS (c :: r) = toksS r := by
  show (if (c.toNat : Int) == 32 then toksF r.length r else _) = _
  rw [if_pos h]; rfl
theorem toksS_tok {c : UInt8} {r : Bs} (h : ((c.toNat : Int) == 32) = false) {k : Nat} (hk : k = tokLen (c :: r)) : toksS (c :: r) = (c :: r).take k :: toksS ((c :: r).drop k) := by
  subst hk
  have hp := tokLen_pos (c :: r)
  have hd : ((c :: r).drop (tokLen (c :: r))).length ≤ r.length := by rw [List.length_drop, List.length_cons]; omega
  show (if (c.toNat : Int) == 32 then _ else (c :: r).take (tokLen (c :: r)) :: toksF r.length ((c :: r).drop (tokLen (c :: r)))) = _
  rw [if_neg (by rw [h]; exact Bool.false_ne_true), toksF_fuel r.length _ _ hd (Nat.le_refl _)]; rfl
theorem idW_step {l : Bs} {k : Nat} (h : k < l.length) (hi : idI (byI l k) = true) : idW (l.drop k) = 1 + idW (l.drop (k + 1)) := by
  rw [List.drop_eq_getElem_cons h]
  have : idC l[k] = true := by unfold idC; rw [← hi]; congr 1; unfold byI; simp [List.getD_eq_getElem?_getD, h]
  unfold idW
  rw [List.takeWhile_cons, if_pos this, List.length_cons, Nat.add_comm]
theorem idW_stop {l : Bs} {k : Nat} (h : k < l.length) (hi : idI (byI l k) = false) : idW (l.drop k) = 0 := by
  rw [List.drop_eq_getElem_cons h]
  have : idC l[k] = false := by unfold idC; rw [← hi]; congr 1; unfold byI; simp [List.getD_eq_getElem?_getD, h]
  unfold idW
  rw [List.takeWhile_cons, this]; rfl
theorem idW_end {l : Bs} {k : Nat} (h : ¬ k < l.length) : idW (l.drop k) = 0 := by
  rw [List.drop_of_length_le (by omega)]; rfl
theorem fin_tok {acc : List Bs} {c : UInt8} {r s : Bs} (hI : acc ++ toksS (c :: r) = toksS s) (hll : acc.length + (c :: r).length ≤ s.length) (hsp : ((c.toNat : Int) == 32) = false) {k : Nat} (hk : k = tokLen (c :: r)) {x y : AV}
    (hx : x = .own 0 (acc.map encT ++ [.str (tx ((c :: r).take k))])) (hy : y = .str (tx ((c :: r).drop k))) :
    ∃ t : List Bs × Bs, (t.1 ++ toksS t.2 = toksS s ∧ t.1.length + t.2.length ≤ s.length) ∧ t.2.length < r.length + 1 ∧ (x.le (.own 0 (t.1.map encT)) ∧ y.le (.str (tx t.2))) ∧
      Cut (Sto.none.add (.tok 1 acc.length)) (Sto.none.add (.tok 1 (acc.length + 1))) (Sto.none.add (.tok 1 t.1.length)) := by
  have hp := tokLen_pos (c :: r)
  have hle := tokLen_le c r
  rw [← hk] at hp hle
  rw [List.length_cons] at hle hll
  refine ⟨(acc ++ [(c :: r).take k], (c :: r).drop k), ⟨?_, ?_⟩, ?_, ⟨?_, ?_⟩, ?_⟩
  · rw [← hI, toksS_tok hsp hk, List.append_assoc]; rfl
  · simp only [List.length_append, List.length_drop, List.length_cons, List.length_nil]; omega
  · simp only [List.length_drop, List.length_cons]; omega
  · rw [hx, List.map_append]; exact .refl _
  · rw [hy]; exact .refl _
  · simp only [List.length_append, List.length_cons, List.length_nil]
    have H := trivial
    exact cutA
section
variable {gl : GL}
theorem tokens_ok (s : Bs) (hs : s.length < 1000000) : PCall (C gl) 51 [.str (tx s)] (.list false ((toksS s).map encT)) := by
  refine pcallX (callX_of b51 (by simp [Tryd.ntmps51]) ?_) (by simp only [AllCl, cl_str, and_true]) (by simp only [cl_list]; exact of_eq_true (clE_T _))
  refine W.of ?_
  rw [Tryd.ntmps51]
  simp only [toK, codeOf, Tryd.f51, go_sem, seval, reduceCtorEq]
  have H := trivial
  refine goB ?_
  first | exact trivial | clear H
  refine WK.own0 3 1 (by decide) (by simp only [go_sem, seval, reduceCtorEq]) ?_
  refine WK.block ?_
  refine WK.loopX [] [3, 0] (fun p : List Bs × Bs => [.own 0 (p.1.map encT), .str (tx p.2)]) (fun p => Sto.none.add (.tok 1 p.1.length)) (fun p => p.1 ++ toksS p.2 = toksS s ∧ p.1.length + p.2.length ≤ s.length) (fun p => p.2.length) ([], s) (by decide) ⟨rfl, by simp⟩ (by simp only [go_sem, seval, reduceCtorEq, List.map_nil]) rfl ?_
  rintro ⟨acc, l⟩ ⟨hI, hll⟩
  simp only at hI hll
  simp only [go_sem, seval, reduceCtorEq]
  cases l with
  | nil =>
    have H := trivial
    refine goB ?_
    first | exact trivial | clear H
    rw [toksS_nil, List.append_nil] at hI
    rw [← hI]
    exact ⟨le_own _ _, cut_none _⟩
  | cons c r =>
    have hne : ((c :: r) == []) = false := rfl
    have e0 : byI (c :: r) 0 = (c.toNat : Int) := rfl
    have hpos : (0 : Int) < ((c :: r).length : Int) := by simp
    have hln : (c :: r).length = r.length + 1 := rfl
    have H := And.intro @hne @hpos
    refine goB ?_
    first | exact trivial | clear H
    cases hsp : ((c.toNat : Int) == 32) with
    | true =>
      have H := And.intro @hne (And.intro @hpos (And.intro @e0 @hsp))
      refine goB ?_
      first | exact trivial | clear H
      rw [toksS_sp hsp] at hI
      refine ⟨(acc, r), ⟨hI, by simp only [List.length_cons] at hll; simp only; omega⟩, Nat.lt_succ_self _, ⟨.refl _, ?_⟩, .refl _⟩
      rw [List.take_length]; exact .refl _
    | false =>
      rw [show ([60, 45, 62] : Bs) = iffT from rfl, show ([45, 62] : Bs) = impT from rfl]
      have H := And.intro @hne (And.intro @hpos (And.intro @e0 @hsp))
      refine goB ?_
      first | exact trivial | clear H
      refine callK_pureL (pre_ok (gl := gl) (c :: r) iffT) rfl ?_ ?_ ?_ <;> simp only [go_sem, seval, reduceCtorEq, List.length_map, hne, hpos, bne]
      cases h1 : pre (c :: r) iffT with
      | true =>
        have htk : 3 = tokLen (c :: r) := by rw [tokLen, if_pos h1]
        have hpl := pre_len h1
        have H := And.intro @hne @hpos
        refine goB ?_
        first | exact trivial | clear H
        refine ⟨by simp [iffT] at hpl; omega, ?_⟩
        have H := And.intro @hne @hpos
        refine appB ?_
        first | exact trivial | clear H
        have H := And.intro @hne @hpos
        refine goB ?_
        first | exact trivial | clear H
        refine ⟨by simp [iffT] at hpl; omega, ?_⟩
        exact fin_tok hI hll hsp htk rfl (by rw [List.take_length]; rfl)
      | false =>
        have H := And.intro @hne @hpos
        refine goB ?_
        first | exact trivial | clear H
        refine callK_pureL (pre_ok (gl := gl) (c :: r) impT) rfl ?_ ?_ ?_ <;> simp only [go_sem, seval, reduceCtorEq, List.length_map, hne, hpos, bne]
        cases h2 : pre (c :: r) impT with
        | true =>
          have htk : 2 = tokLen (c :: r) := by rw [tokLen, if_neg (by simp [h1]), if_pos h2]
          have hpl := pre_len h2
          have H := And.intro @hne @hpos
          refine goB ?_
          first | exact trivial | clear H
          refine ⟨by simp [impT] at hpl; omega, ?_⟩
          have H := And.intro @hne @hpos
          refine appB ?_
          first | exact trivial | clear H
          have H := And.intro @hne @hpos
          refine goB ?_
          first | exact trivial | clear H
          refine ⟨by simp [impT] at hpl; omega, ?_⟩
          exact fin_tok hI hll hsp htk rfl (by rw [List.take_length]; rfl)
        | false =>
          cases h3 : decide ((c.toNat : Int) ≥ 97) with
          | false =>
            have htk : 1 = tokLen (c :: r) := by rw [tokLen, if_neg (by simp [h1]), if_neg (by simp [h2]), if_neg (by simp [e0, lowI, h3])]
            have H := And.intro @hne (And.intro @hpos @h3)
            refine goB ?_
            first | exact trivial | clear H
            have H := And.intro @hne @hpos
            refine appB ?_
            first | exact trivial | clear H
            have H := And.intro @hne @hpos
            refine goB ?_
            first | exact trivial | clear H
            exact fin_tok hI hll hsp htk rfl (by rw [List.take_length]; rfl)
          | true =>
          cases h4 : decide ((c.toNat : Int) ≤ 122) with
          | false =>
            have htk : 1 = tokLen (c :: r) := by rw [tokLen, if_neg (by simp [h1]), if_neg (by simp [h2]), if_neg (by simp [e0, lowI, h3, h4])]
            have H := And.intro @hne (And.intro @hpos (And.intro @h3 @h4))
            refine goB ?_
            first | exact trivial | clear H
            have H := And.intro @hne @hpos
            refine appB ?_
            first | exact trivial | clear H
            have H := And.intro @hne @hpos
            refine goB ?_
            first | exact trivial | clear H
            exact fin_tok hI hll hsp htk rfl (by rw [List.take_length]; rfl)
          | true =>
            have hlow : lowI (byI (c :: r) 0) = true := by rw [e0, lowI, h3, h4]; rfl
            have htl : tokLen (c :: r) = 1 + idW ((c :: r).drop 1) := by rw [tokLen, if_neg (by simp [h1]), if_neg (by simp [h2]), if_pos hlow]
            have hr6 : r.length < 1000000 := by simp only [List.length_cons] at hll; omega
            have H := And.intro @hne (And.intro @hpos (And.intro @h3 @h4))
            refine goB ?_
            first | exact trivial | clear H
            refine WK.block ?_
            refine WK.loopX [0, 3] [4] (fun k : Nat => [.int .i64 k]) (fun _ => Sto.none.add (.tok 1 acc.length)) (fun k => k ≤ (c :: r).length ∧ tokLen (c :: r) = k + idW ((c :: r).drop k)) (fun k => (c :: r).length - k) 1 (by decide) ⟨by simp, htl⟩ (by simp only [go_sem, seval, reduceCtorEq]) rfl ?_
            rintro k ⟨hk, hkt⟩
            simp only [go_sem, seval, reduceCtorEq]
            by_cases hb : k < (c :: r).length
            · have hbd : decide ((k : Int) < ((r.length + 1 : Nat) : Int)) = true := by simp only [List.length_cons] at hb; simp; omega
              have hib : (k : Int) < ((r.length + 1 : Nat) : Int) := of_decide_eq_true hbd
              have hw : IntKind.i64.wrap ((k : Int) + 1) = ((k + 1 : Nat) : Int) := by rw [wrap_lt (by omega) (by omega)]; omega
              have hstop : idI (byI (c :: r) k) = false → k = tokLen (c :: r) := fun h => by rw [hkt, idW_stop hb h, Nat.add_zero]
              cases qa : decide (byI (c :: r) k ≥ 97) with
              | false =>
                cases qd : decide (byI (c :: r) k ≥ 48) with
                | false =>
                  have H := And.intro @hne (And.intro @hpos (And.intro @hib (And.intro @hw (And.intro @decide_true (And.intro @qa @qd)))))
                  refine goB ?_
                  first | exact trivial | clear H
                  have hkk : k = tokLen (c :: r) := hstop (by simp [idI, lowI, qa, qd])
                  have H := And.intro @hne (And.intro @hpos (And.intro @hib (And.intro @hw @decide_true)))
                  refine appB ?_
                  first | exact trivial | clear H
                  have H := And.intro @hne (And.intro @hpos (And.intro @hib (And.intro @hw @decide_true)))
                  refine goB ?_
                  first | exact trivial | clear H
                  exact fin_tok hI hll hsp hkk rfl (by rw [List.take_length])
                | true =>
                  cases qe : decide (byI (c :: r) k ≤ 57) with
                  | false =>
                    have H := And.intro @hne (And.intro @hpos (And.intro @hib (And.intro @hw (And.intro @decide_true (And.intro @qa (And.intro @qd @qe))))))
                    refine goB ?_
                    first | exact trivial | clear H
                    have hkk : k = tokLen (c :: r) := hstop (by simp [idI, lowI, qa, qd, qe])
                    have H := And.intro @hne (And.intro @hpos (And.intro @hib (And.intro @hw @decide_true)))
                    refine appB ?_
                    first | exact trivial | clear H
                    have H := And.intro @hne (And.intro @hpos (And.intro @hib (And.intro @hw @decide_true)))
                    refine goB ?_
                    first | exact trivial | clear H
                    exact fin_tok hI hll hsp hkk rfl (by rw [List.take_length])
                  | true =>
                    have H := And.intro @hne (And.intro @hpos (And.intro @hib (And.intro @hw (And.intro @decide_true (And.intro @qa (And.intro @qd @qe))))))
                    refine goB ?_
                    first | exact trivial | clear H
                    exact ⟨k + 1, ⟨hb, by rw [hkt, idW_step hb (by simp [idI, lowI, qa, qd, qe])]; omega⟩, by rw [← hln]; omega, rfl⟩
              | true =>
                cases qb : decide (byI (c :: r) k ≤ 122) with
                | false =>
                  cases qd : decide (byI (c :: r) k ≥ 48) with
                  | false =>
                    have H := And.intro @hne (And.intro @hpos (And.intro @hib (And.intro @hw (And.intro @decide_true (And.intro @qa (And.intro @qb @qd))))))
                    refine goB ?_
                    first | exact trivial | clear H
                    have hkk : k = tokLen (c :: r) := hstop (by simp [idI, lowI, qa, qb, qd])
                    have H := And.intro @hne (And.intro @hpos (And.intro @hib (And.intro @hw @decide_true)))
                    refine appB ?_
                    first | exact trivial | clear H
                    have H := And.intro @hne (And.intro @hpos (And.intro @hib (And.intro @hw @decide_true)))
                    refine goB ?_
                    first | exact trivial | clear H
                    exact fin_tok hI hll hsp hkk rfl (by rw [List.take_length])
                  | true =>
                    cases qe : decide (byI (c :: r) k ≤ 57) with
                    | false =>
                      have H := And.intro @hne (And.intro @hpos (And.intro @hib (And.intro @hw (And.intro @decide_true (And.intro @qa (And.intro @qb (And.intro @qd @qe)))))))
                      refine goB ?_
                      first | exact trivial | clear H
                      have hkk : k = tokLen (c :: r) := hstop (by simp [idI, lowI, qa, qb, qd, qe])
                      have H := And.intro @hne (And.intro @hpos (And.intro @hib (And.intro @hw @decide_true)))
                      refine appB ?_
                      first | exact trivial | clear H
                      have H := And.intro @hne (And.intro @hpos (And.intro @hib (And.intro @hw @decide_true)))
                      refine goB ?_
                      first | exact trivial | clear H
                      exact fin_tok hI hll hsp hkk rfl (by rw [List.take_length])
                    | true =>
                      have H := And.intro @hne (And.intro @hpos (And.intro @hib (And.intro @hw (And.intro @decide_true (And.intro @qa (And.intro @qb (And.intro @qd @qe)))))))
                      refine goB ?_
                      first | exact trivial | clear H
                      exact ⟨k + 1, ⟨hb, by rw [hkt, idW_step hb (by simp [idI, lowI, qa, qb, qd, qe])]; omega⟩, by rw [← hln]; omega, rfl⟩
                | true =>
                  have H := And.intro @hne (And.intro @hpos (And.intro @hib (And.intro @hw (And.intro @decide_true (And.intro @qa @qb)))))
                  refine goB ?_
                  first | exact trivial | clear H
                  exact ⟨k + 1, ⟨hb, by rw [hkt, idW_step hb (by simp [idI, lowI, qa, qb])]; omega⟩, by rw [← hln]; omega, rfl⟩
            · have hbd : decide ((k : Int) < ((r.length + 1 : Nat) : Int)) = false := by simp only [List.length_cons] at hb; simp; omega
              have hstop : k = tokLen (c :: r) := by rw [hkt, idW_end hb, Nat.add_zero]
              have H := And.intro @hne (And.intro @hpos @hbd)
              refine goB ?_
              first | exact trivial | clear H
              have H := And.intro @hne (And.intro @hpos @hbd)
              refine appB ?_
              first | exact trivial | clear H
              have H := And.intro @hne (And.intro @hpos @hbd)
              refine goB ?_
              first | exact trivial | clear H
              exact fin_tok hI hll hsp hstop rfl (by rw [List.take_length])
end
end Go.Sx
