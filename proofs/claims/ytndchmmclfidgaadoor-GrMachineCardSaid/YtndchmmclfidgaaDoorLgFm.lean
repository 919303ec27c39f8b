/- Formulas as values. -/
import Derived.Test.YtndchmmclfidgaaDoorLgT
set_option linter.unusedVariables false
set_option linter.unusedSimpArgs false
namespace Go.Lg
inductive Fm where
  | mk (op var : Int) (args : List Fm)
def Fm.op : Fm → Int | .mk o _ _ => o
def Fm.var : Fm → Int | .mk _ v _ => v
def Fm.args : Fm → List Fm | .mk _ _ l => l
mutual
def encF : Fm → AV
  | .mk o v l => .agg [.int .i64 o, .int .i64 v, .list false (encFs l)]
def encFs : List Fm → List AV
  | [] => []
  | f :: l => encF f :: encFs l
end
mutual
theorem closedF : ∀ f : Fm, Closed (encF f)
  | .mk o v l => .agg _ (by
      intro c hc
      simp only [List.mem_cons, List.not_mem_nil, or_false] at hc
      rcases hc with rfl | rfl | rfl
      · exact .int _ _
      · exact .int _ _
      · exact .list _ _ (closedFs l))
theorem closedFs : ∀ l : List Fm, ∀ x ∈ encFs l, ∀ c ∈ x.cells, Closed c
  | [] => fun x hx => by cases hx
  | f :: l => fun x hx c hc => by
      simp only [encFs, List.mem_cons] at hx
      rcases hx with rfl | hx
      · have := closedF f
        cases f with
        | mk o v l =>
          simp only [encF] at this hc
          cases this with
          | agg _ h => exact h c hc
      · exact closedFs l x hx c hc
end
theorem encFs_len (l : List Fm) : (encFs l).length = l.length := by induction l with
  | nil => rfl
  | cons f l ih => simp [encFs, ih]
theorem encFs_get : ∀ (l : List Fm) (i : Nat) (h : i < l.length), (encFs l).getD i .undef = encF (l[i])
  | f :: l, 0, h => rfl
  | f :: l, i + 1, h => by simpa [encFs] using encFs_get l i (by simpa using h)
mutual
theorem Fm.ind_ {P : Fm → Prop} (h : ∀ o v l, (∀ g ∈ l, P g) → P (.mk o v l)) : ∀ f, P f
  | .mk o v l => h o v l (Fm.indL h l)
theorem Fm.indL {P : Fm → Prop} (h : ∀ o v l, (∀ g ∈ l, P g) → P (.mk o v l)) : ∀ (l : List Fm), ∀ g ∈ l, P g
  | [] => fun g hg => by cases hg
  | f :: l => fun g hg => by
    rcases List.mem_cons.1 hg with e | hg
    · rw [e]; exact Fm.ind_ h f
    · exact Fm.indL h l g hg
end
theorem Fm.ind {P : Fm → Prop} (h : ∀ o v l, (∀ g ∈ l, P g) → P (.mk o v l)) (f : Fm) : P f := Fm.ind_ h f
mutual
def Shrt : Fm → Prop
  | .mk _ _ l => l.length < 9223372036854775807 ∧ ShrtL l
def ShrtL : List Fm → Prop
  | [] => True
  | f :: l => Shrt f ∧ ShrtL l
end
theorem ShrtL.mem : ∀ {l : List Fm}, ShrtL l → ∀ g ∈ l, Shrt g
  | f :: l, h, g, hg => by
    rcases List.mem_cons.1 hg with rfl | hg
    · exact h.1
    · exact ShrtL.mem h.2 g hg
theorem encF_eq (f : Fm) : encF f = .agg [.int .i64 f.op, .int .i64 f.var, .list false (encFs f.args)] := by cases f; rfl
theorem Shrt.args {f : Fm} (h : Shrt f) : f.args.length < 9223372036854775807 ∧ ShrtL f.args := by cases f; simpa [Shrt, Fm.args] using h
theorem Fm.eta (f : Fm) : Fm.mk f.op f.var f.args = f := by cases f; rfl
structure Ct where
  inn : Int
  out : Int
  ie : Fm
  is : Fm
  se : Fm
  ss : Fm
  je : List Fm
  js : List Fm
def encC (c : Ct) : AV := .agg [.int .i64 c.inn, .int .i64 c.out, .int .i64 c.ie.op, .int .i64 c.ie.var, .list false (encFs c.ie.args), .int .i64 c.is.op, .int .i64 c.is.var, .list false (encFs c.is.args),
  .int .i64 c.se.op, .int .i64 c.se.var, .list false (encFs c.se.args), .int .i64 c.ss.op, .int .i64 c.ss.var, .list false (encFs c.ss.args), .list false (encFs c.je), .list false (encFs c.js)]
theorem closedC (c : Ct) : Closed (encC c) := by
  refine .agg _ ?_
  intro x hx
  simp only [List.mem_cons, List.not_mem_nil, or_false] at hx
  rcases hx with rfl | rfl | rfl | rfl | rfl | rfl | rfl | rfl | rfl | rfl | rfl | rfl | rfl | rfl | rfl | rfl <;> first | exact .int _ _ | exact .list _ _ (closedFs _)
structure ShrtC (c : Ct) : Prop where
  ie : Shrt c.ie
  is : Shrt c.is
  se : Shrt c.se
  ss : Shrt c.ss
  je : ShrtL c.je
  js : ShrtL c.js
  jel : c.je.length < 4611686018427387904
  jsl : c.js.length < 4611686018427387904
end Go.Lg
