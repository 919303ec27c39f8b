/- The reckoning's last facts: what every template's simp list bore by name. -/
import Derived.Attr
attribute [go_sem] Nat.add_assoc Nat.left_eq_add Nat.add_eq_left Nat.add_left_cancel_iff Nat.le_refl Nat.zero_add Nat.mul_one Int.cast_ofNat_Int Int.toNat_zero Bool.not_true Bool.not_false Bool.not_not Int.toNat_natCast ne_eq not_false_eq_true Option.isSome_some
