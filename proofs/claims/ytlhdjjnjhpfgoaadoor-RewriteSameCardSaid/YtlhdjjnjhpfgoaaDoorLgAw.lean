/- Lg, part Aw: shorter steps of the walks, as default tactics. H is the name of what they may use. -/
import Derived.Test.YtlhdjjnjhpfgoaaDoorLgAv
set_option linter.unusedVariables false
namespace Go.Lg
open Go.RowKit
theorem goB {P Q : Prop} (h : Q) (k : Wr Q → P := by
  intro hq
  try simp only [go_sem, seval, reduceCtorEq, H]
  repeat (first | refine WK.blockSeq ?_ | refine WK.blockCond ?_ | refine WK.blockReg ?_ | (refine WK.condT ?_ ?_; (focus (simp only [go_sem, seval, reduceCtorEq, H]; done))) | (refine WK.condF ?_ ?_; (focus (simp only [go_sem, seval, reduceCtorEq, H]; done))) | refine WK.seq ?_ | ((first | refine WK.reg ?_ | refine WK.skip ?_ | refine WK.ret ?_ | refine WK.exit ?_); simp only [go_sem, seval, reduceCtorEq, H]) | ((with_reducible refine And.intro ?_ ?_); (focus omega)) | omega)
  all_goals exact hq.q) (u : Dmy Q := by first | exact (Dmy.mk : Dmy True) | exact Dmy.mk) : P := k ⟨h⟩
theorem appB {P Q : Prop} (h : Q) (k : Wr Q → P := by
  intro hq
  refine appK_own (f := _) (by simp only [go_sem, seval, reduceCtorEq, H]; rfl) (by simp only [go_sem, seval, reduceCtorEq, H]; rfl) (by simp only [go_sem, seval, reduceCtorEq, H]; rfl) (by simp only [go_sem, seval, reduceCtorEq, H]) (by simp only [go_sem, seval, reduceCtorEq, H, List.length_map, List.length_take, List.length_range, List.length_append, List.length_cons, List.length_nil]; first | done | omega) ?_ (by simp only [go_sem, seval, reduceCtorEq, H]; rfl) (by simp only [go_sem, seval, reduceCtorEq, H]) ?_ (by kernel_rfl) (by simp only [go_sem, seval, reduceCtorEq, H, List.length_map, List.length_take, List.length_range, List.length_append, List.length_cons, List.length_nil]; first | done | omega) (by simp only [go_sem, seval, reduceCtorEq, H, List.length_map, List.length_take, List.length_range, List.length_append, List.length_cons, List.length_nil]; first | done | omega) ?_
  all_goals (try simp only [go_sem, seval, reduceCtorEq, H])
  all_goals (try (refine okes_map fun _ => ?_; simp only [go_sem, seval, reduceCtorEq, H]; done))
  all_goals exact hq.q) (u : Dmy Q := by first | exact (Dmy.mk : Dmy True) | exact Dmy.mk) : P := k ⟨h⟩
theorem appBd {P Q : Prop} (h : Q) (k : Wr Q → P := by
  intro hq
  refine appD_own (f := _) (by simp only [go_sem, seval, reduceCtorEq, H]; rfl) (by simp only [go_sem, seval, reduceCtorEq, H]; rfl) (by simp only [go_sem, seval, reduceCtorEq, H]; rfl) (by simp only [go_sem, seval, reduceCtorEq, H]) (by simp only [go_sem, seval, reduceCtorEq, H, List.length_map, List.length_take, List.length_range, List.length_append, List.length_cons, List.length_nil]; first | done | omega) ?_ (by simp only [go_sem, seval, reduceCtorEq, H]; rfl) (by simp only [go_sem, seval, reduceCtorEq, H]) ?_ (by kernel_rfl) (by simp only [go_sem, seval, reduceCtorEq, H, List.length_map, List.length_take, List.length_range, List.length_append, List.length_cons, List.length_nil]; first | done | omega) (by simp only [go_sem, seval, reduceCtorEq, H, List.length_map, List.length_take, List.length_range, List.length_append, List.length_cons, List.length_nil]; first | done | omega) ?_
  all_goals (try simp only [go_sem, seval, reduceCtorEq, H])
  all_goals (try (refine okes_map fun _ => ?_; simp only [go_sem, seval, reduceCtorEq, H]; done))
  all_goals exact hq.q) (u : Dmy Q := by first | exact (Dmy.mk : Dmy True) | exact Dmy.mk) : P := k ⟨h⟩
theorem ltsA {a b : Nat} (k : a < b := by first | omega | (simp only [Sto.next_add, Sto.next_set]; omega)) : a < b := k
end Go.Lg
