/-
  NARROWER THAN 'FOR EVERY INPUT', by the rows' own cells (each row's printed sentence says how): RewritePush: loops, laid · RewriteSame: loops, laid.
  DERIVED. THE GIVEN ROWS OF THIS SEAT. 2 by the template 'for every input the law returns true; each argument reads behind the call as it read before'; 0 by the template 'total and deterministic' (their statements: YtlhdjjnjhpfgoaaDoorTotals.lean).
  GIVEN WITH THE SEED: the statements are not yours to turn. If you find one false, say at which input.
  Laid BY PROGRAM, IN A SANDBOX (cutbox-rows.mjs): the forced cells as the released guide's own fill.sh prints them over the translation 66daa1d91f5e4c2c… (all of the seat's roots in one cut). By AI agents, Wed Nov 11 2026. No macro, syntax, notation, axiom, sorry.
-/
import Derived.Test.YtlhdjjnjhpfgoaaDoorChecked
import GoSem.PinnedTables
import GoSem.Claim
import GoSem.ClaimJoined
import GoSem.ClaimMapViews
import Derived.JoinedTies
import Derived.KernelRfl
namespace Go.Proofs.YtlhdjjnjhpfgoaaDoor
/- THE CELL 'sum', in the pinned program and in every row, IS THE sha256 OF THE DUMP (.gsa) THAT YtlhdjjnjhpfgoaaDoorProg.lean LOADS. Nothing in Lean hashes anything: it is a label: what it is worth is what the hold of that sum in a sandbox is worth. -/
noncomputable def Tryd.pinned : Pinned := { name := "ytlhdjjnjhpfgoaadoor", sum := "66daa1d91f5e4c2ce166bdf7324b427535c08ccdb277ae2347cd9d7a5b40dccf", checked := Tryd.checked }
namespace Rows
def none {H : Type} : Left H := { results := [], args := [] }

/- WHAT THE LISTED PACKAGE-LEVEL VARIABLES READ AS WHEN THE CALL BEGINS. Each datum BY PROGRAM (the guide's laid-datum.mjs) off the statement by which the dump's own 'gosem.cut.vars' lays the variable. In a bare row this is a premise. The card (YtlhdjjnjhpfgoaaDoorCards.lean) ties it to the program's text. -/
def laid_unicode_utf8_acceptRanges {H : Type} : DataW H := .agg [.agg [.lit (.int .u8 128), .lit (.int .u8 191)], .agg [.lit (.int .u8 160), .lit (.int .u8 191)], .agg [.lit (.int .u8 128), .lit (.int .u8 159)], .agg [.lit (.int .u8 144), .lit (.int .u8 191)], .agg [.lit (.int .u8 128), .lit (.int .u8 143)], .agg [.lit (.int .u8 0), .lit (.int .u8 0)], .agg [.lit (.int .u8 0), .lit (.int .u8 0)], .agg [.lit (.int .u8 0), .lit (.int .u8 0)], .agg [.lit (.int .u8 0), .lit (.int .u8 0)], .agg [.lit (.int .u8 0), .lit (.int .u8 0)], .agg [.lit (.int .u8 0), .lit (.int .u8 0)], .agg [.lit (.int .u8 0), .lit (.int .u8 0)], .agg [.lit (.int .u8 0), .lit (.int .u8 0)], .agg [.lit (.int .u8 0), .lit (.int .u8 0)], .agg [.lit (.int .u8 0), .lit (.int .u8 0)], .agg [.lit (.int .u8 0), .lit (.int .u8 0)]]
def laid_lodesman_ltl_arity {H : Type} : DataW H := .agg [.lit (.int .i64 0), .lit (.int .i64 0), .lit (.int .i64 0), .lit (.int .i64 1), .lit (.int .i64 2), .lit (.int .i64 2), .lit (.int .i64 2), .lit (.int .i64 2), .lit (.int .i64 1), .lit (.int .i64 1), .lit (.int .i64 1), .lit (.int .i64 2), .lit (.int .i64 2), .lit (.int .i64 2)]
def laid_lodesman_ltl_strength {H : Type} : DataW H := .agg [.lit (.int .i64 9), .lit (.int .i64 9), .lit (.int .i64 9), .lit (.int .i64 6), .lit (.int .i64 4), .lit (.int .i64 3), .lit (.int .i64 2), .lit (.int .i64 1), .lit (.int .i64 6), .lit (.int .i64 6), .lit (.int .i64 6), .lit (.int .i64 5), .lit (.int .i64 5), .lit (.int .i64 5)]
def laid_lodesman_ltl_right {H : Type} : DataW H := .agg [.lit (.bool false), .lit (.bool false), .lit (.bool false), .lit (.bool false), .lit (.bool false), .lit (.bool false), .lit (.bool true), .lit (.bool false), .lit (.bool false), .lit (.bool false), .lit (.bool false), .lit (.bool true), .lit (.bool true), .lit (.bool true)]
def laid_lodesman_ltl_signs {H : Type} : DataW H := .agg [.lit (.string [116, 114, 117, 101]), .lit (.string [102, 97, 108, 115, 101]), .lit (.string []), .lit (.string [33]), .lit (.string [38]), .lit (.string [124]), .lit (.string [45, 62]), .lit (.string [60, 45, 62]), .lit (.string [88]), .lit (.string [70]), .lit (.string [71]), .lit (.string [85]), .lit (.string [82]), .lit (.string [87])]
/-- One of Go's own tables, pinned by name: the form's constant. -/
def laid_unicode_utf8_first : DataW Unit := Go.Pinned.utf8First

/-- 'lodesmanlaw04.RewritePush': WHATEVER THE INPUT: true; the input reads as it did. -/
def rewritePushSpec : ChangeSpec := { name := "rewritePush", fn := fun _ => fun
  | [d] => { results := [.lit (.bool true)], args := [d] }
  | _ => none }
def rewritePushRow : OpenClaim := { program := "ytlhdjjnjhpfgoaadoor", sum := "66daa1d91f5e4c2ce166bdf7324b427535c08ccdb277ae2347cd9d7a5b40dccf", func := "lodesman/lodesmanlaw04.RewritePush", spec := "rewritePush", inPlace := ["internal/bytealg.IndexByteString", "internal/bytealg.IndexString"], unfollowed := true, recurses := true, named := ["unicode/utf8.first", "unicode/utf8.acceptRanges", "lodesman/ltl.arity", "lodesman/ltl.strength", "lodesman/ltl.right", "lodesman/ltl.signs", "internal/bytealg.MaxLen"], loops := true, apart := false, laid := [("unicode/utf8.acceptRanges", laid_unicode_utf8_acceptRanges), ("lodesman/ltl.arity", laid_lodesman_ltl_arity), ("lodesman/ltl.strength", laid_lodesman_ltl_strength), ("lodesman/ltl.right", laid_lodesman_ltl_right), ("lodesman/ltl.signs", laid_lodesman_ltl_signs), ("unicode/utf8.first", laid_unicode_utf8_first)] }
def RewritePushSaid : Prop := rewritePushRow.holds Tryd.pinned (OpenSpec.ofChange rewritePushSpec)

/-- ITS FALSE NEIGHBOUR: 'it returns false'. Refute it at one input. -/
def rewritePushWrong : ChangeSpec := { name := "rewritePush", fn := fun _ => fun
  | [d] => { results := [.lit (.bool false)], args := [d] }
  | _ => none }
def RewritePushWrongFalsely : Prop := rewritePushRow.holds Tryd.pinned (OpenSpec.ofChange rewritePushWrong)

/-- 'lodesmanlaw04.RewriteSame': WHATEVER THE INPUT: true; the input reads as it did. -/
def rewriteSameSpec : ChangeSpec := { name := "rewriteSame", fn := fun _ => fun
  | [d1, d2, d3] => { results := [.lit (.bool true)], args := [d1, d2, d3] }
  | _ => none }
def rewriteSameRow : OpenClaim := { program := "ytlhdjjnjhpfgoaadoor", sum := "66daa1d91f5e4c2ce166bdf7324b427535c08ccdb277ae2347cd9d7a5b40dccf", func := "lodesman/lodesmanlaw04.RewriteSame", spec := "rewriteSame", inPlace := ["internal/bytealg.IndexByteString", "internal/bytealg.IndexString"], unfollowed := true, recurses := true, named := ["unicode/utf8.first", "unicode/utf8.acceptRanges", "lodesman/ltl.arity", "lodesman/ltl.strength", "lodesman/ltl.right", "lodesman/ltl.signs", "internal/bytealg.MaxLen"], loops := true, apart := false, laid := [("unicode/utf8.acceptRanges", laid_unicode_utf8_acceptRanges), ("lodesman/ltl.arity", laid_lodesman_ltl_arity), ("lodesman/ltl.strength", laid_lodesman_ltl_strength), ("lodesman/ltl.right", laid_lodesman_ltl_right), ("lodesman/ltl.signs", laid_lodesman_ltl_signs), ("unicode/utf8.first", laid_unicode_utf8_first)] }
def RewriteSameSaid : Prop := rewriteSameRow.holds Tryd.pinned (OpenSpec.ofChange rewriteSameSpec)

/-- ITS FALSE NEIGHBOUR: 'it returns false'. Refute it at one input. -/
def rewriteSameWrong : ChangeSpec := { name := "rewriteSame", fn := fun _ => fun
  | [d1, d2, d3] => { results := [.lit (.bool false)], args := [d1, d2, d3] }
  | _ => none }
def RewriteSameWrongFalsely : Prop := rewriteSameRow.holds Tryd.pinned (OpenSpec.ofChange rewriteSameWrong)

/- THE SECOND FORM. 'bulk': how many values and letters a reading holds, each counted each time it is reached (what is shared counts as often as it is met; a slice's spare places count too). A statement '..UptoSaid' is the law's where the arguments, and the package variables that the reading takes, are together of bulk at most 1048576: NARROWER than '..Said'. Prove '..Said' where nothing that the law and all that it calls make is longer than what came in: it says more and counts as full. Else prove '..UptoSaid'. A law counts once. -/
mutual
def uptoBulk {H : Type} : DataW H → Nat
  | .lit (.string bytes) => bytes.length + 1
  | .lit _ => 1
  | .nil => 1
  | .ptr d => uptoBulk d + 1
  | .slice elems spare => uptoBulkAll elems + uptoBulkAll spare + 1
  | .agg parts => uptoBulkAll parts + 1
  | .iface _ d => uptoBulk d + 1
  | .map entries => uptoBulkEntries entries + 1
  | .held _ => 1
def uptoBulkAll {H : Type} : List (DataW H) → Nat
  | [] => 0
  | d :: r => uptoBulk d + uptoBulkAll r
def uptoBulkEntries {H : Type} : List (Lit × DataW H) → Nat
  | [] => 0
  | x :: r => uptoBulkEntry x + uptoBulkEntries r
def uptoBulkEntry {H : Type} : Lit × DataW H → Nat
  | (.string bytes, d) => bytes.length + uptoBulk d + 1
  | (_, d) => uptoBulk d + 1
 end
def uptoSmall : (H : Type) → List (DataW H) → Bool := fun _ ds => decide (uptoBulkAll ds ≤ 1048576)
def OpenSpec.upto (s : _root_.Go.ChangeSpec) : _root_.Go.OpenSpec := { _root_.Go.OpenSpec.ofChange s with cond := some uptoSmall }

/-- 'lodesmanlaw04.RewritePush', WHERE WHAT IT READS IS OF BULK AT MOST 1048576: true; the input reads as it did. -/
def rewritePushUptoRow : OpenClaim := { program := "ytlhdjjnjhpfgoaadoor", sum := "66daa1d91f5e4c2ce166bdf7324b427535c08ccdb277ae2347cd9d7a5b40dccf", func := "lodesman/lodesmanlaw04.RewritePush", spec := "rewritePush", inPlace := ["internal/bytealg.IndexByteString", "internal/bytealg.IndexString"], unfollowed := true, recurses := true, named := ["unicode/utf8.first", "unicode/utf8.acceptRanges", "lodesman/ltl.arity", "lodesman/ltl.strength", "lodesman/ltl.right", "lodesman/ltl.signs", "internal/bytealg.MaxLen"], loops := true, apart := false, laid := [("unicode/utf8.acceptRanges", laid_unicode_utf8_acceptRanges), ("lodesman/ltl.arity", laid_lodesman_ltl_arity), ("lodesman/ltl.strength", laid_lodesman_ltl_strength), ("lodesman/ltl.right", laid_lodesman_ltl_right), ("lodesman/ltl.signs", laid_lodesman_ltl_signs), ("unicode/utf8.first", laid_unicode_utf8_first)], narrowed := true }
def RewritePushUptoSaid : Prop := rewritePushUptoRow.holds Tryd.pinned (OpenSpec.upto rewritePushSpec)

/-- 'lodesmanlaw04.RewriteSame', WHERE WHAT IT READS IS OF BULK AT MOST 1048576: true; the input reads as it did. -/
def rewriteSameUptoRow : OpenClaim := { program := "ytlhdjjnjhpfgoaadoor", sum := "66daa1d91f5e4c2ce166bdf7324b427535c08ccdb277ae2347cd9d7a5b40dccf", func := "lodesman/lodesmanlaw04.RewriteSame", spec := "rewriteSame", inPlace := ["internal/bytealg.IndexByteString", "internal/bytealg.IndexString"], unfollowed := true, recurses := true, named := ["unicode/utf8.first", "unicode/utf8.acceptRanges", "lodesman/ltl.arity", "lodesman/ltl.strength", "lodesman/ltl.right", "lodesman/ltl.signs", "internal/bytealg.MaxLen"], loops := true, apart := false, laid := [("unicode/utf8.acceptRanges", laid_unicode_utf8_acceptRanges), ("lodesman/ltl.arity", laid_lodesman_ltl_arity), ("lodesman/ltl.strength", laid_lodesman_ltl_strength), ("lodesman/ltl.right", laid_lodesman_ltl_right), ("lodesman/ltl.signs", laid_lodesman_ltl_signs), ("unicode/utf8.first", laid_unicode_utf8_first)], narrowed := true }
def RewriteSameUptoSaid : Prop := rewriteSameUptoRow.holds Tryd.pinned (OpenSpec.upto rewriteSameSpec)

end Rows
end Go.Proofs.YtlhdjjnjhpfgoaaDoor
