/- Lg, part W: texts as lists of bytes. -/
import Derived.Test.YtndchmmclfidgaaDoorLgZ
set_option linter.unusedVariables false
set_option linter.unusedSimpArgs false
namespace Go.Lg
open Go.RowKit
abbrev Bs := List UInt8
def tx (l : Bs) : ByteArray := ⟨l.toArray⟩
theorem mk_tx (l : Bs) : ByteArray.mk l.toArray = tx l := (rfl)
theorem empty_tx : ByteArray.empty = tx [] := (rfl)
theorem tx_data (s : ByteArray) : tx s.data.toList = s := by
  cases s; simp [tx]
theorem size_tx (l : Bs) : (tx l).size = l.length := by simp [tx, ByteArray.size]
theorem toList_loop (s : ByteArray) : ∀ (n i : Nat) (r : List UInt8), s.size - i = n → ByteArray.toList.loop s i r = r.reverse ++ s.data.toList.drop i := by
  intro n
  induction n with
  | zero =>
    intro i r h
    unfold ByteArray.toList.loop
    rw [if_neg (by omega), List.drop_of_length_le (by rw [Array.length_toList]; have : s.size = s.data.size := rfl; omega), List.append_nil]
  | succ n ih =>
    intro i r h
    unfold ByteArray.toList.loop
    have hi : i < s.size := by omega
    rw [if_pos hi, ih (i + 1) _ (by omega), List.reverse_cons, List.append_assoc]
    congr 1
    have hi' : i < s.data.toList.length := by rw [Array.length_toList]; exact hi
    rw [List.drop_eq_getElem_cons hi']
    have : s.get! i = s.data.toList[i] := by
      have h1 : s.get! i = s.data[i]! := by cases s; rfl
      rw [h1, getElem!_pos s.data i hi, Array.getElem_toList]
    rw [this]; rfl
theorem toList_tx (l : Bs) : (tx l).toList = l := by
  unfold ByteArray.toList
  rw [toList_loop (tx l) _ 0 [] rfl]
  simp [tx]
theorem append_tx (a b : Bs) : tx a ++ tx b = tx (a ++ b) := by
  have h1 : (tx a ++ tx b).data.toList = a ++ b := by simp [tx, ByteArray.data_append]
  rw [← tx_data (tx a ++ tx b), h1]
theorem extract_tx (l : Bs) (i j : Nat) : (tx l).extract i j = tx ((l.take j).drop i) := by
  have h1 : ((tx l).extract i j).data.toList = (l.take j).drop i := by simp [tx, ByteArray.data_extract, List.drop_take]
  rw [← tx_data ((tx l).extract i j), h1]
def byI (l : Bs) (n : Nat) : Int := ((l.getD n 0).toNat : Int)
theorem byteAt_tx (l : Bs) (n : Nat) : byteAt (tx l) n = byI l n := by simp [byteAt, byI, tx, Array.getD_eq_getD_getElem?, List.getD_eq_getElem?_getD]
attribute [go_sem] mk_tx empty_tx size_tx toList_tx append_tx extract_tx byteAt_tx
attribute [go_sem] andK_panic inBlk_panic
theorem loopX_panic {C : Cx} {T : Type} {ts us : List Nat} {env : Env} {σ : Sto} {V : T → List AV} {S : T → Sto} {I : T → Prop} {μ : T → Nat} {n : Nat} {Q : Exit → Env → Sto → Prop} {ch : List PanicEntry} : loopX ts us env σ V S I μ n Q (.panic ch) = Q (.panic ch) := (rfl)
attribute [go_sem] loopX_panic
def u8A (c : UInt8) : AV := .int .u8 (c.toNat : Int)
def u8L (l : Bs) : List AV := l.map u8A
theorem bytesAV_tx (l : Bs) : bytesAV (tx l) = u8L l := by
  unfold bytesAV u8L
  simp [tx, u8A]
theorem u8L_isU8 (l : Bs) : (u8L l).all AV.isU8 = true := by
  simp [u8L, List.all_eq_true, u8A, AV.isU8]
theorem byA_fold : ∀ (l : Bs) (r : ByteArray), ((u8L l).map AV.theI).foldl (fun r n => r.push (UInt8.ofNat n.toNat)) r = r ++ tx l
  | [], r => by
    have h1 : (r ++ tx []).data.toList = r.data.toList := by simp [tx, ByteArray.data_append]
    have h2 : tx (r ++ tx []).data.toList = tx r.data.toList := by rw [h1]
    rw [tx_data, tx_data] at h2
    exact h2.symm
  | c :: l, r => by
    show ((u8L l).map AV.theI).foldl _ (r.push (UInt8.ofNat (AV.theI (u8A c)).toNat)) = _
    rw [byA_fold l]
    have e : UInt8.ofNat (AV.theI (u8A c)).toNat = c := by simp [u8A, AV.theI]
    rw [e]
    have h1 : (r.push c ++ tx l).data.toList = (r ++ tx (c :: l)).data.toList := by simp [tx, ByteArray.data_append, ByteArray.data_push]
    rw [← tx_data (r.push c ++ tx l), h1, tx_data]
theorem byA_u8L (l : Bs) : byA (u8L l) = tx l := by
  unfold byA
  rw [byA_fold]
  have h1 : (ByteArray.empty ++ tx l).data.toList = l := by simp [tx, ByteArray.data_append]
  rw [← tx_data (ByteArray.empty ++ tx l), h1]
theorem u8L_len (l : Bs) : (u8L l).length = l.length := by simp [u8L]
theorem belE_u8 {m : Nat} (l : Bs) : BelE m (u8L l) = True := eq_true (belE_map (fun _ => .int _ _) l)
theorem okes_u8 (l : Bs) : OKEs 1 (u8L l) = True := eq_true (okes_map fun _ => ⟨rfl, rfl⟩)
theorem clE_u8 (l : Bs) : ClE (u8L l) = True := eq_true (clE_map (fun _ => .int _ _) l)
attribute [go_sem] bytesAV_tx u8L_isU8 byA_u8L u8L_len belE_u8 okes_u8 clE_u8
end Go.Lg
