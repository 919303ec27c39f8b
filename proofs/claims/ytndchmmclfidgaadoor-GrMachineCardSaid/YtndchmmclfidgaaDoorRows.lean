/-
  NARROWER THAN 'FOR EVERY INPUT', by the rows' own cells (each row's printed sentence says how): GrWins: loops, laid · GrLosing: loops, laid · GrMonotone: loops, laid · GrFacts: loops, laid · GrMachine: loops, laid · LtlTexts: loops, laid · LtlBack: loops, laid · LtlPlain: loops, laid · LtlNormal: loops, laid · LtlSizes: loops, laid · RewriteSimple: loops, laid · RewriteParts: loops, laid.
  DERIVED. THE GIVEN ROWS OF THIS SEAT. 12 by the template 'for every input the law returns true; each argument reads behind the call as it read before'; 0 by the template 'total and deterministic' (their statements: YtndchmmclfidgaaDoorTotals.lean).
  GIVEN WITH THE SEED: the statements are not yours to turn. If you find one false, say at which input.
  Laid BY PROGRAM, IN A SANDBOX (cutbox-rows.mjs): the forced cells as the released guide's own fill.sh prints them over the translation 7bb964647d4c1aad… (all of the seat's roots in one cut). By AI agents, Wed Nov 11 2026. No macro, syntax, notation, axiom, sorry.
-/
import Derived.Test.YtndchmmclfidgaaDoorChecked
import GoSem.PinnedTables
import GoSem.Claim
import GoSem.ClaimJoined
import GoSem.ClaimMapViews
import Derived.JoinedTies
import Derived.KernelRfl
namespace Go.Proofs.YtndchmmclfidgaaDoor
/- THE CELL 'sum', in the pinned program and in every row, IS THE sha256 OF THE DUMP (.gsa) THAT YtndchmmclfidgaaDoorProg.lean LOADS. Nothing in Lean hashes anything: it is a label: what it is worth is what the hold of that sum in a sandbox is worth. -/
noncomputable def Tryd.pinned : Pinned := { name := "ytndchmmclfidgaadoor", sum := "7bb964647d4c1aad01bba3e477b5e2499cdbbd1d2d530c54ee3d399406110390", checked := Tryd.checked }
namespace Rows
def none {H : Type} : Left H := { results := [], args := [] }

/- WHAT THE LISTED PACKAGE-LEVEL VARIABLES READ AS WHEN THE CALL BEGINS. Each datum BY PROGRAM (the guide's laid-datum.mjs) off the statement by which the dump's own 'gosem.cut.vars' lays the variable. In a bare row this is a premise. The card (YtndchmmclfidgaaDoorCards.lean) ties it to the program's text. -/
def laid_lodesman_ltl_arity {H : Type} : DataW H := .agg [.lit (.int .i64 0), .lit (.int .i64 0), .lit (.int .i64 0), .lit (.int .i64 1), .lit (.int .i64 2), .lit (.int .i64 2), .lit (.int .i64 2), .lit (.int .i64 2), .lit (.int .i64 1), .lit (.int .i64 1), .lit (.int .i64 1), .lit (.int .i64 2), .lit (.int .i64 2), .lit (.int .i64 2)]
def laid_math_bits_deBruijn64tab {H : Type} : DataW H := .agg [.lit (.int .u8 0), .lit (.int .u8 1), .lit (.int .u8 56), .lit (.int .u8 2), .lit (.int .u8 57), .lit (.int .u8 49), .lit (.int .u8 28), .lit (.int .u8 3), .lit (.int .u8 61), .lit (.int .u8 58), .lit (.int .u8 42), .lit (.int .u8 50), .lit (.int .u8 38), .lit (.int .u8 29), .lit (.int .u8 17), .lit (.int .u8 4), .lit (.int .u8 62), .lit (.int .u8 47), .lit (.int .u8 59), .lit (.int .u8 36), .lit (.int .u8 45), .lit (.int .u8 43), .lit (.int .u8 51), .lit (.int .u8 22), .lit (.int .u8 53), .lit (.int .u8 39), .lit (.int .u8 33), .lit (.int .u8 30), .lit (.int .u8 24), .lit (.int .u8 18), .lit (.int .u8 12), .lit (.int .u8 5), .lit (.int .u8 63), .lit (.int .u8 55), .lit (.int .u8 48), .lit (.int .u8 27), .lit (.int .u8 60), .lit (.int .u8 41), .lit (.int .u8 37), .lit (.int .u8 16), .lit (.int .u8 46), .lit (.int .u8 35), .lit (.int .u8 44), .lit (.int .u8 21), .lit (.int .u8 52), .lit (.int .u8 32), .lit (.int .u8 23), .lit (.int .u8 11), .lit (.int .u8 54), .lit (.int .u8 26), .lit (.int .u8 40), .lit (.int .u8 15), .lit (.int .u8 34), .lit (.int .u8 20), .lit (.int .u8 31), .lit (.int .u8 10), .lit (.int .u8 25), .lit (.int .u8 14), .lit (.int .u8 19), .lit (.int .u8 9), .lit (.int .u8 13), .lit (.int .u8 8), .lit (.int .u8 7), .lit (.int .u8 6)]
def laid_unicode_utf8_acceptRanges {H : Type} : DataW H := .agg [.agg [.lit (.int .u8 128), .lit (.int .u8 191)], .agg [.lit (.int .u8 160), .lit (.int .u8 191)], .agg [.lit (.int .u8 128), .lit (.int .u8 159)], .agg [.lit (.int .u8 144), .lit (.int .u8 191)], .agg [.lit (.int .u8 128), .lit (.int .u8 143)], .agg [.lit (.int .u8 0), .lit (.int .u8 0)], .agg [.lit (.int .u8 0), .lit (.int .u8 0)], .agg [.lit (.int .u8 0), .lit (.int .u8 0)], .agg [.lit (.int .u8 0), .lit (.int .u8 0)], .agg [.lit (.int .u8 0), .lit (.int .u8 0)], .agg [.lit (.int .u8 0), .lit (.int .u8 0)], .agg [.lit (.int .u8 0), .lit (.int .u8 0)], .agg [.lit (.int .u8 0), .lit (.int .u8 0)], .agg [.lit (.int .u8 0), .lit (.int .u8 0)], .agg [.lit (.int .u8 0), .lit (.int .u8 0)], .agg [.lit (.int .u8 0), .lit (.int .u8 0)]]
def laid_lodesman_ltl_strength {H : Type} : DataW H := .agg [.lit (.int .i64 9), .lit (.int .i64 9), .lit (.int .i64 9), .lit (.int .i64 6), .lit (.int .i64 4), .lit (.int .i64 3), .lit (.int .i64 2), .lit (.int .i64 1), .lit (.int .i64 6), .lit (.int .i64 6), .lit (.int .i64 6), .lit (.int .i64 5), .lit (.int .i64 5), .lit (.int .i64 5)]
def laid_lodesman_ltl_right {H : Type} : DataW H := .agg [.lit (.bool false), .lit (.bool false), .lit (.bool false), .lit (.bool false), .lit (.bool false), .lit (.bool false), .lit (.bool true), .lit (.bool false), .lit (.bool false), .lit (.bool false), .lit (.bool false), .lit (.bool true), .lit (.bool true), .lit (.bool true)]
def laid_lodesman_ltl_signs {H : Type} : DataW H := .agg [.lit (.string [116, 114, 117, 101]), .lit (.string [102, 97, 108, 115, 101]), .lit (.string []), .lit (.string [33]), .lit (.string [38]), .lit (.string [124]), .lit (.string [45, 62]), .lit (.string [60, 45, 62]), .lit (.string [88]), .lit (.string [70]), .lit (.string [71]), .lit (.string [85]), .lit (.string [82]), .lit (.string [87])]
/-- One of Go's own tables, pinned by name: the form's constant. -/
def laid_unicode_utf8_first : DataW Unit := Go.Pinned.utf8First

/-- 'lodesmanlaw23.GrWins': WHATEVER THE INPUT: true; the input reads as it did. -/
def grWinsSpec : ChangeSpec := { name := "grWins", fn := fun _ => fun
  | [d] => { results := [.lit (.bool true)], args := [d] }
  | _ => none }
def grWinsRow : OpenClaim := { program := "ytndchmmclfidgaadoor", sum := "7bb964647d4c1aad01bba3e477b5e2499cdbbd1d2d530c54ee3d399406110390", func := "lodesman/lodesmanlaw23.GrWins", spec := "grWins", unfollowed := true, recurses := true, named := ["lodesman/ltl.arity"], loops := true, plainKeys := false, apart := false, laid := [("lodesman/ltl.arity", laid_lodesman_ltl_arity)] }
def GrWinsSaid : Prop := grWinsRow.holds Tryd.pinned (OpenSpec.ofChange grWinsSpec)

/-- ITS FALSE NEIGHBOUR: 'it returns false'. Refute it at one input. -/
def grWinsWrong : ChangeSpec := { name := "grWins", fn := fun _ => fun
  | [d] => { results := [.lit (.bool false)], args := [d] }
  | _ => none }
def GrWinsWrongFalsely : Prop := grWinsRow.holds Tryd.pinned (OpenSpec.ofChange grWinsWrong)

/-- 'lodesmanlaw23.GrLosing': WHATEVER THE INPUT: true; the input reads as it did. -/
def grLosingSpec : ChangeSpec := { name := "grLosing", fn := fun _ => fun
  | [d1, d2, d3, d4] => { results := [.lit (.bool true)], args := [d1, d2, d3, d4] }
  | _ => none }
def grLosingRow : OpenClaim := { program := "ytndchmmclfidgaadoor", sum := "7bb964647d4c1aad01bba3e477b5e2499cdbbd1d2d530c54ee3d399406110390", func := "lodesman/lodesmanlaw23.GrLosing", spec := "grLosing", unfollowed := true, recurses := true, named := ["lodesman/ltl.arity"], loops := true, plainKeys := false, apart := false, laid := [("lodesman/ltl.arity", laid_lodesman_ltl_arity)] }
def GrLosingSaid : Prop := grLosingRow.holds Tryd.pinned (OpenSpec.ofChange grLosingSpec)

/-- ITS FALSE NEIGHBOUR: 'it returns false'. Refute it at one input. -/
def grLosingWrong : ChangeSpec := { name := "grLosing", fn := fun _ => fun
  | [d1, d2, d3, d4] => { results := [.lit (.bool false)], args := [d1, d2, d3, d4] }
  | _ => none }
def GrLosingWrongFalsely : Prop := grLosingRow.holds Tryd.pinned (OpenSpec.ofChange grLosingWrong)

/-- 'lodesmanlaw23.GrMonotone': WHATEVER THE INPUT: true; the input reads as it did. -/
def grMonotoneSpec : ChangeSpec := { name := "grMonotone", fn := fun _ => fun
  | [d1, d2, d3] => { results := [.lit (.bool true)], args := [d1, d2, d3] }
  | _ => none }
def grMonotoneRow : OpenClaim := { program := "ytndchmmclfidgaadoor", sum := "7bb964647d4c1aad01bba3e477b5e2499cdbbd1d2d530c54ee3d399406110390", func := "lodesman/lodesmanlaw23.GrMonotone", spec := "grMonotone", unfollowed := true, recurses := true, named := ["lodesman/ltl.arity"], loops := true, plainKeys := false, apart := false, laid := [("lodesman/ltl.arity", laid_lodesman_ltl_arity)] }
def GrMonotoneSaid : Prop := grMonotoneRow.holds Tryd.pinned (OpenSpec.ofChange grMonotoneSpec)

/-- ITS FALSE NEIGHBOUR: 'it returns false'. Refute it at one input. -/
def grMonotoneWrong : ChangeSpec := { name := "grMonotone", fn := fun _ => fun
  | [d1, d2, d3] => { results := [.lit (.bool false)], args := [d1, d2, d3] }
  | _ => none }
def GrMonotoneWrongFalsely : Prop := grMonotoneRow.holds Tryd.pinned (OpenSpec.ofChange grMonotoneWrong)

/-- 'lodesmanlaw23.GrFacts': WHATEVER THE INPUT: true; the input reads as it did. -/
def grFactsSpec : ChangeSpec := { name := "grFacts", fn := fun _ => fun
  | [d1, d2, d3] => { results := [.lit (.bool true)], args := [d1, d2, d3] }
  | _ => none }
def grFactsRow : OpenClaim := { program := "ytndchmmclfidgaadoor", sum := "7bb964647d4c1aad01bba3e477b5e2499cdbbd1d2d530c54ee3d399406110390", func := "lodesman/lodesmanlaw23.GrFacts", spec := "grFacts", unfollowed := true, recurses := true, named := ["lodesman/ltl.arity"], loops := true, plainKeys := false, apart := false, laid := [("lodesman/ltl.arity", laid_lodesman_ltl_arity)] }
def GrFactsSaid : Prop := grFactsRow.holds Tryd.pinned (OpenSpec.ofChange grFactsSpec)

/-- ITS FALSE NEIGHBOUR: 'it returns false'. Refute it at one input. -/
def grFactsWrong : ChangeSpec := { name := "grFacts", fn := fun _ => fun
  | [d1, d2, d3] => { results := [.lit (.bool false)], args := [d1, d2, d3] }
  | _ => none }
def GrFactsWrongFalsely : Prop := grFactsRow.holds Tryd.pinned (OpenSpec.ofChange grFactsWrong)

/-- 'lodesmanlaw23.GrMachine': WHATEVER THE INPUT: true; the input reads as it did. -/
def grMachineSpec : ChangeSpec := { name := "grMachine", fn := fun _ => fun
  | [d] => { results := [.lit (.bool true)], args := [d] }
  | _ => none }
def grMachineRow : OpenClaim := { program := "ytndchmmclfidgaadoor", sum := "7bb964647d4c1aad01bba3e477b5e2499cdbbd1d2d530c54ee3d399406110390", func := "lodesman/lodesmanlaw23.GrMachine", spec := "grMachine", unfollowed := true, recurses := true, named := ["lodesman/ltl.arity", "math/bits.deBruijn64tab"], loops := true, plainKeys := false, apart := false, laid := [("math/bits.deBruijn64tab", laid_math_bits_deBruijn64tab), ("lodesman/ltl.arity", laid_lodesman_ltl_arity)] }
def GrMachineSaid : Prop := grMachineRow.holds Tryd.pinned (OpenSpec.ofChange grMachineSpec)

/-- ITS FALSE NEIGHBOUR: 'it returns false'. Refute it at one input. -/
def grMachineWrong : ChangeSpec := { name := "grMachine", fn := fun _ => fun
  | [d] => { results := [.lit (.bool false)], args := [d] }
  | _ => none }
def GrMachineWrongFalsely : Prop := grMachineRow.holds Tryd.pinned (OpenSpec.ofChange grMachineWrong)

/-- 'lodesmanlaw02.LtlTexts': WHATEVER THE INPUT: true; the input reads as it did. -/
def ltlTextsSpec : ChangeSpec := { name := "ltlTexts", fn := fun _ => fun
  | [d1, d2, d3] => { results := [.lit (.bool true)], args := [d1, d2, d3] }
  | _ => none }
def ltlTextsRow : OpenClaim := { program := "ytndchmmclfidgaadoor", sum := "7bb964647d4c1aad01bba3e477b5e2499cdbbd1d2d530c54ee3d399406110390", func := "lodesman/lodesmanlaw02.LtlTexts", spec := "ltlTexts", inPlace := ["internal/bytealg.IndexByteString", "internal/bytealg.IndexString"], unfollowed := true, recurses := true, named := ["unicode/utf8.first", "unicode/utf8.acceptRanges", "lodesman/ltl.arity", "lodesman/ltl.strength", "lodesman/ltl.right", "lodesman/ltl.signs", "internal/bytealg.MaxLen"], loops := true, plainKeys := false, apart := false, laid := [("unicode/utf8.acceptRanges", laid_unicode_utf8_acceptRanges), ("lodesman/ltl.arity", laid_lodesman_ltl_arity), ("lodesman/ltl.strength", laid_lodesman_ltl_strength), ("lodesman/ltl.right", laid_lodesman_ltl_right), ("lodesman/ltl.signs", laid_lodesman_ltl_signs), ("unicode/utf8.first", laid_unicode_utf8_first)] }
def LtlTextsSaid : Prop := ltlTextsRow.holds Tryd.pinned (OpenSpec.ofChange ltlTextsSpec)

/-- ITS FALSE NEIGHBOUR: 'it returns false'. Refute it at one input. -/
def ltlTextsWrong : ChangeSpec := { name := "ltlTexts", fn := fun _ => fun
  | [d1, d2, d3] => { results := [.lit (.bool false)], args := [d1, d2, d3] }
  | _ => none }
def LtlTextsWrongFalsely : Prop := ltlTextsRow.holds Tryd.pinned (OpenSpec.ofChange ltlTextsWrong)

/-- 'lodesmanlaw02.LtlBack': WHATEVER THE INPUT: true; the input reads as it did. -/
def ltlBackSpec : ChangeSpec := { name := "ltlBack", fn := fun _ => fun
  | [d1, d2] => { results := [.lit (.bool true)], args := [d1, d2] }
  | _ => none }
def ltlBackRow : OpenClaim := { program := "ytndchmmclfidgaadoor", sum := "7bb964647d4c1aad01bba3e477b5e2499cdbbd1d2d530c54ee3d399406110390", func := "lodesman/lodesmanlaw02.LtlBack", spec := "ltlBack", inPlace := ["internal/bytealg.IndexByteString", "internal/bytealg.IndexString"], unfollowed := true, recurses := true, named := ["unicode/utf8.first", "unicode/utf8.acceptRanges", "lodesman/ltl.arity", "lodesman/ltl.strength", "lodesman/ltl.right", "lodesman/ltl.signs", "internal/bytealg.MaxLen"], loops := true, plainKeys := false, apart := false, laid := [("unicode/utf8.acceptRanges", laid_unicode_utf8_acceptRanges), ("lodesman/ltl.arity", laid_lodesman_ltl_arity), ("lodesman/ltl.strength", laid_lodesman_ltl_strength), ("lodesman/ltl.right", laid_lodesman_ltl_right), ("lodesman/ltl.signs", laid_lodesman_ltl_signs), ("unicode/utf8.first", laid_unicode_utf8_first)] }
def LtlBackSaid : Prop := ltlBackRow.holds Tryd.pinned (OpenSpec.ofChange ltlBackSpec)

/-- ITS FALSE NEIGHBOUR: 'it returns false'. Refute it at one input. -/
def ltlBackWrong : ChangeSpec := { name := "ltlBack", fn := fun _ => fun
  | [d1, d2] => { results := [.lit (.bool false)], args := [d1, d2] }
  | _ => none }
def LtlBackWrongFalsely : Prop := ltlBackRow.holds Tryd.pinned (OpenSpec.ofChange ltlBackWrong)

/-- 'lodesmanlaw02.LtlPlain': WHATEVER THE INPUT: true; the input reads as it did. -/
def ltlPlainSpec : ChangeSpec := { name := "ltlPlain", fn := fun _ => fun
  | [d] => { results := [.lit (.bool true)], args := [d] }
  | _ => none }
def ltlPlainRow : OpenClaim := { program := "ytndchmmclfidgaadoor", sum := "7bb964647d4c1aad01bba3e477b5e2499cdbbd1d2d530c54ee3d399406110390", func := "lodesman/lodesmanlaw02.LtlPlain", spec := "ltlPlain", inPlace := ["internal/bytealg.IndexByteString", "internal/bytealg.IndexString"], unfollowed := true, recurses := true, named := ["unicode/utf8.first", "unicode/utf8.acceptRanges", "lodesman/ltl.arity", "lodesman/ltl.strength", "lodesman/ltl.right", "lodesman/ltl.signs", "internal/bytealg.MaxLen"], loops := true, plainKeys := false, apart := false, laid := [("unicode/utf8.acceptRanges", laid_unicode_utf8_acceptRanges), ("lodesman/ltl.arity", laid_lodesman_ltl_arity), ("lodesman/ltl.strength", laid_lodesman_ltl_strength), ("lodesman/ltl.right", laid_lodesman_ltl_right), ("lodesman/ltl.signs", laid_lodesman_ltl_signs), ("unicode/utf8.first", laid_unicode_utf8_first)] }
def LtlPlainSaid : Prop := ltlPlainRow.holds Tryd.pinned (OpenSpec.ofChange ltlPlainSpec)

/-- ITS FALSE NEIGHBOUR: 'it returns false'. Refute it at one input. -/
def ltlPlainWrong : ChangeSpec := { name := "ltlPlain", fn := fun _ => fun
  | [d] => { results := [.lit (.bool false)], args := [d] }
  | _ => none }
def LtlPlainWrongFalsely : Prop := ltlPlainRow.holds Tryd.pinned (OpenSpec.ofChange ltlPlainWrong)

/-- 'lodesmanlaw02.LtlNormal': WHATEVER THE INPUT: true; the input reads as it did. -/
def ltlNormalSpec : ChangeSpec := { name := "ltlNormal", fn := fun _ => fun
  | [d1, d2, d3] => { results := [.lit (.bool true)], args := [d1, d2, d3] }
  | _ => none }
def ltlNormalRow : OpenClaim := { program := "ytndchmmclfidgaadoor", sum := "7bb964647d4c1aad01bba3e477b5e2499cdbbd1d2d530c54ee3d399406110390", func := "lodesman/lodesmanlaw02.LtlNormal", spec := "ltlNormal", inPlace := ["internal/bytealg.IndexByteString", "internal/bytealg.IndexString"], unfollowed := true, recurses := true, named := ["unicode/utf8.first", "unicode/utf8.acceptRanges", "lodesman/ltl.arity", "lodesman/ltl.strength", "lodesman/ltl.right", "lodesman/ltl.signs", "internal/bytealg.MaxLen"], loops := true, plainKeys := false, apart := false, laid := [("unicode/utf8.acceptRanges", laid_unicode_utf8_acceptRanges), ("lodesman/ltl.arity", laid_lodesman_ltl_arity), ("lodesman/ltl.strength", laid_lodesman_ltl_strength), ("lodesman/ltl.right", laid_lodesman_ltl_right), ("lodesman/ltl.signs", laid_lodesman_ltl_signs), ("unicode/utf8.first", laid_unicode_utf8_first)] }
def LtlNormalSaid : Prop := ltlNormalRow.holds Tryd.pinned (OpenSpec.ofChange ltlNormalSpec)

/-- ITS FALSE NEIGHBOUR: 'it returns false'. Refute it at one input. -/
def ltlNormalWrong : ChangeSpec := { name := "ltlNormal", fn := fun _ => fun
  | [d1, d2, d3] => { results := [.lit (.bool false)], args := [d1, d2, d3] }
  | _ => none }
def LtlNormalWrongFalsely : Prop := ltlNormalRow.holds Tryd.pinned (OpenSpec.ofChange ltlNormalWrong)

/-- 'lodesmanlaw02.LtlSizes': WHATEVER THE INPUT: true; the input reads as it did. -/
def ltlSizesSpec : ChangeSpec := { name := "ltlSizes", fn := fun _ => fun
  | [d1, d2, d3] => { results := [.lit (.bool true)], args := [d1, d2, d3] }
  | _ => none }
def ltlSizesRow : OpenClaim := { program := "ytndchmmclfidgaadoor", sum := "7bb964647d4c1aad01bba3e477b5e2499cdbbd1d2d530c54ee3d399406110390", func := "lodesman/lodesmanlaw02.LtlSizes", spec := "ltlSizes", inPlace := ["internal/bytealg.IndexByteString", "internal/bytealg.IndexString"], unfollowed := true, recurses := true, named := ["unicode/utf8.first", "unicode/utf8.acceptRanges", "lodesman/ltl.arity", "lodesman/ltl.strength", "lodesman/ltl.right", "lodesman/ltl.signs", "internal/bytealg.MaxLen"], loops := true, plainKeys := false, apart := false, laid := [("unicode/utf8.acceptRanges", laid_unicode_utf8_acceptRanges), ("lodesman/ltl.arity", laid_lodesman_ltl_arity), ("lodesman/ltl.strength", laid_lodesman_ltl_strength), ("lodesman/ltl.right", laid_lodesman_ltl_right), ("lodesman/ltl.signs", laid_lodesman_ltl_signs), ("unicode/utf8.first", laid_unicode_utf8_first)] }
def LtlSizesSaid : Prop := ltlSizesRow.holds Tryd.pinned (OpenSpec.ofChange ltlSizesSpec)

/-- ITS FALSE NEIGHBOUR: 'it returns false'. Refute it at one input. -/
def ltlSizesWrong : ChangeSpec := { name := "ltlSizes", fn := fun _ => fun
  | [d1, d2, d3] => { results := [.lit (.bool false)], args := [d1, d2, d3] }
  | _ => none }
def LtlSizesWrongFalsely : Prop := ltlSizesRow.holds Tryd.pinned (OpenSpec.ofChange ltlSizesWrong)

/-- 'lodesmanlaw04.RewriteSimple': WHATEVER THE INPUT: true; the input reads as it did. -/
def rewriteSimpleSpec : ChangeSpec := { name := "rewriteSimple", fn := fun _ => fun
  | [d] => { results := [.lit (.bool true)], args := [d] }
  | _ => none }
def rewriteSimpleRow : OpenClaim := { program := "ytndchmmclfidgaadoor", sum := "7bb964647d4c1aad01bba3e477b5e2499cdbbd1d2d530c54ee3d399406110390", func := "lodesman/lodesmanlaw04.RewriteSimple", spec := "rewriteSimple", inPlace := ["internal/bytealg.IndexByteString", "internal/bytealg.IndexString"], unfollowed := true, recurses := true, named := ["unicode/utf8.first", "unicode/utf8.acceptRanges", "lodesman/ltl.arity", "lodesman/ltl.strength", "lodesman/ltl.right", "lodesman/ltl.signs", "internal/bytealg.MaxLen"], loops := true, plainKeys := false, apart := false, laid := [("unicode/utf8.acceptRanges", laid_unicode_utf8_acceptRanges), ("lodesman/ltl.arity", laid_lodesman_ltl_arity), ("lodesman/ltl.strength", laid_lodesman_ltl_strength), ("lodesman/ltl.right", laid_lodesman_ltl_right), ("lodesman/ltl.signs", laid_lodesman_ltl_signs), ("unicode/utf8.first", laid_unicode_utf8_first)] }
def RewriteSimpleSaid : Prop := rewriteSimpleRow.holds Tryd.pinned (OpenSpec.ofChange rewriteSimpleSpec)

/-- ITS FALSE NEIGHBOUR: 'it returns false'. Refute it at one input. -/
def rewriteSimpleWrong : ChangeSpec := { name := "rewriteSimple", fn := fun _ => fun
  | [d] => { results := [.lit (.bool false)], args := [d] }
  | _ => none }
def RewriteSimpleWrongFalsely : Prop := rewriteSimpleRow.holds Tryd.pinned (OpenSpec.ofChange rewriteSimpleWrong)

/-- 'lodesmanlaw04.RewriteParts': WHATEVER THE INPUT: true; the input reads as it did. -/
def rewritePartsSpec : ChangeSpec := { name := "rewriteParts", fn := fun _ => fun
  | [d] => { results := [.lit (.bool true)], args := [d] }
  | _ => none }
def rewritePartsRow : OpenClaim := { program := "ytndchmmclfidgaadoor", sum := "7bb964647d4c1aad01bba3e477b5e2499cdbbd1d2d530c54ee3d399406110390", func := "lodesman/lodesmanlaw04.RewriteParts", spec := "rewriteParts", inPlace := ["internal/bytealg.IndexByteString", "internal/bytealg.IndexString"], unfollowed := true, recurses := true, named := ["unicode/utf8.first", "unicode/utf8.acceptRanges", "lodesman/ltl.arity", "lodesman/ltl.strength", "lodesman/ltl.right", "lodesman/ltl.signs", "internal/bytealg.MaxLen"], loops := true, plainKeys := false, apart := false, laid := [("unicode/utf8.acceptRanges", laid_unicode_utf8_acceptRanges), ("lodesman/ltl.arity", laid_lodesman_ltl_arity), ("lodesman/ltl.strength", laid_lodesman_ltl_strength), ("lodesman/ltl.right", laid_lodesman_ltl_right), ("lodesman/ltl.signs", laid_lodesman_ltl_signs), ("unicode/utf8.first", laid_unicode_utf8_first)] }
def RewritePartsSaid : Prop := rewritePartsRow.holds Tryd.pinned (OpenSpec.ofChange rewritePartsSpec)

/-- ITS FALSE NEIGHBOUR: 'it returns false'. Refute it at one input. -/
def rewritePartsWrong : ChangeSpec := { name := "rewriteParts", fn := fun _ => fun
  | [d] => { results := [.lit (.bool false)], args := [d] }
  | _ => none }
def RewritePartsWrongFalsely : Prop := rewritePartsRow.holds Tryd.pinned (OpenSpec.ofChange rewritePartsWrong)

/- THE SECOND FORM. 'bulk': how many values and letters a reading holds, each counted each time it is reached (what is shared counts as often as it is met; a slice's spare places count too). A statement '..UptoSaid' is the law's where the arguments, and the package variables that the reading takes, are together of bulk at most 1048576: NARROWER than '..Said'. Prove '..Said' where nothing that the law and all that it calls make is longer than what came in: it says more and counts as full. Else prove '..UptoSaid'. A law counts once. -/
mutual
def uptoBulk {H : Type} : DataW H → Nat
  | .lit (.string bytes) => bytes.length + 1
  | .lit _ => 1
  | .nil => 1
  | .ptr d => uptoBulk d + 1
  | .slice elems spare => uptoBulkAll elems + uptoBulkAll spare + 1
  | .agg parts => uptoBulkAll parts + 1
  | .iface _ d => uptoBulk d + 1
  | .map entries => uptoBulkEntries entries + 1
  | .held _ => 1
def uptoBulkAll {H : Type} : List (DataW H) → Nat
  | [] => 0
  | d :: r => uptoBulk d + uptoBulkAll r
def uptoBulkEntries {H : Type} : List (Lit × DataW H) → Nat
  | [] => 0
  | x :: r => uptoBulkEntry x + uptoBulkEntries r
def uptoBulkEntry {H : Type} : Lit × DataW H → Nat
  | (.string bytes, d) => bytes.length + uptoBulk d + 1
  | (_, d) => uptoBulk d + 1
 end
def uptoSmall : (H : Type) → List (DataW H) → Bool := fun _ ds => decide (uptoBulkAll ds ≤ 1048576)
def OpenSpec.upto (s : _root_.Go.ChangeSpec) : _root_.Go.OpenSpec := { _root_.Go.OpenSpec.ofChange s with cond := some uptoSmall }

/-- 'lodesmanlaw23.GrWins', WHERE WHAT IT READS IS OF BULK AT MOST 1048576: true; the input reads as it did. -/
def grWinsUptoRow : OpenClaim := { program := "ytndchmmclfidgaadoor", sum := "7bb964647d4c1aad01bba3e477b5e2499cdbbd1d2d530c54ee3d399406110390", func := "lodesman/lodesmanlaw23.GrWins", spec := "grWins", unfollowed := true, recurses := true, named := ["lodesman/ltl.arity"], loops := true, plainKeys := false, apart := false, laid := [("lodesman/ltl.arity", laid_lodesman_ltl_arity)], narrowed := true }
def GrWinsUptoSaid : Prop := grWinsUptoRow.holds Tryd.pinned (OpenSpec.upto grWinsSpec)

/-- 'lodesmanlaw23.GrLosing', WHERE WHAT IT READS IS OF BULK AT MOST 1048576: true; the input reads as it did. -/
def grLosingUptoRow : OpenClaim := { program := "ytndchmmclfidgaadoor", sum := "7bb964647d4c1aad01bba3e477b5e2499cdbbd1d2d530c54ee3d399406110390", func := "lodesman/lodesmanlaw23.GrLosing", spec := "grLosing", unfollowed := true, recurses := true, named := ["lodesman/ltl.arity"], loops := true, plainKeys := false, apart := false, laid := [("lodesman/ltl.arity", laid_lodesman_ltl_arity)], narrowed := true }
def GrLosingUptoSaid : Prop := grLosingUptoRow.holds Tryd.pinned (OpenSpec.upto grLosingSpec)

/-- 'lodesmanlaw23.GrMonotone', WHERE WHAT IT READS IS OF BULK AT MOST 1048576: true; the input reads as it did. -/
def grMonotoneUptoRow : OpenClaim := { program := "ytndchmmclfidgaadoor", sum := "7bb964647d4c1aad01bba3e477b5e2499cdbbd1d2d530c54ee3d399406110390", func := "lodesman/lodesmanlaw23.GrMonotone", spec := "grMonotone", unfollowed := true, recurses := true, named := ["lodesman/ltl.arity"], loops := true, plainKeys := false, apart := false, laid := [("lodesman/ltl.arity", laid_lodesman_ltl_arity)], narrowed := true }
def GrMonotoneUptoSaid : Prop := grMonotoneUptoRow.holds Tryd.pinned (OpenSpec.upto grMonotoneSpec)

/-- 'lodesmanlaw23.GrFacts', WHERE WHAT IT READS IS OF BULK AT MOST 1048576: true; the input reads as it did. -/
def grFactsUptoRow : OpenClaim := { program := "ytndchmmclfidgaadoor", sum := "7bb964647d4c1aad01bba3e477b5e2499cdbbd1d2d530c54ee3d399406110390", func := "lodesman/lodesmanlaw23.GrFacts", spec := "grFacts", unfollowed := true, recurses := true, named := ["lodesman/ltl.arity"], loops := true, plainKeys := false, apart := false, laid := [("lodesman/ltl.arity", laid_lodesman_ltl_arity)], narrowed := true }
def GrFactsUptoSaid : Prop := grFactsUptoRow.holds Tryd.pinned (OpenSpec.upto grFactsSpec)

/-- 'lodesmanlaw23.GrMachine', WHERE WHAT IT READS IS OF BULK AT MOST 1048576: true; the input reads as it did. -/
def grMachineUptoRow : OpenClaim := { program := "ytndchmmclfidgaadoor", sum := "7bb964647d4c1aad01bba3e477b5e2499cdbbd1d2d530c54ee3d399406110390", func := "lodesman/lodesmanlaw23.GrMachine", spec := "grMachine", unfollowed := true, recurses := true, named := ["lodesman/ltl.arity", "math/bits.deBruijn64tab"], loops := true, plainKeys := false, apart := false, laid := [("math/bits.deBruijn64tab", laid_math_bits_deBruijn64tab), ("lodesman/ltl.arity", laid_lodesman_ltl_arity)], narrowed := true }
def GrMachineUptoSaid : Prop := grMachineUptoRow.holds Tryd.pinned (OpenSpec.upto grMachineSpec)

/-- 'lodesmanlaw02.LtlTexts', WHERE WHAT IT READS IS OF BULK AT MOST 1048576: true; the input reads as it did. -/
def ltlTextsUptoRow : OpenClaim := { program := "ytndchmmclfidgaadoor", sum := "7bb964647d4c1aad01bba3e477b5e2499cdbbd1d2d530c54ee3d399406110390", func := "lodesman/lodesmanlaw02.LtlTexts", spec := "ltlTexts", inPlace := ["internal/bytealg.IndexByteString", "internal/bytealg.IndexString"], unfollowed := true, recurses := true, named := ["unicode/utf8.first", "unicode/utf8.acceptRanges", "lodesman/ltl.arity", "lodesman/ltl.strength", "lodesman/ltl.right", "lodesman/ltl.signs", "internal/bytealg.MaxLen"], loops := true, plainKeys := false, apart := false, laid := [("unicode/utf8.acceptRanges", laid_unicode_utf8_acceptRanges), ("lodesman/ltl.arity", laid_lodesman_ltl_arity), ("lodesman/ltl.strength", laid_lodesman_ltl_strength), ("lodesman/ltl.right", laid_lodesman_ltl_right), ("lodesman/ltl.signs", laid_lodesman_ltl_signs), ("unicode/utf8.first", laid_unicode_utf8_first)], narrowed := true }
def LtlTextsUptoSaid : Prop := ltlTextsUptoRow.holds Tryd.pinned (OpenSpec.upto ltlTextsSpec)

/-- 'lodesmanlaw02.LtlBack', WHERE WHAT IT READS IS OF BULK AT MOST 1048576: true; the input reads as it did. -/
def ltlBackUptoRow : OpenClaim := { program := "ytndchmmclfidgaadoor", sum := "7bb964647d4c1aad01bba3e477b5e2499cdbbd1d2d530c54ee3d399406110390", func := "lodesman/lodesmanlaw02.LtlBack", spec := "ltlBack", inPlace := ["internal/bytealg.IndexByteString", "internal/bytealg.IndexString"], unfollowed := true, recurses := true, named := ["unicode/utf8.first", "unicode/utf8.acceptRanges", "lodesman/ltl.arity", "lodesman/ltl.strength", "lodesman/ltl.right", "lodesman/ltl.signs", "internal/bytealg.MaxLen"], loops := true, plainKeys := false, apart := false, laid := [("unicode/utf8.acceptRanges", laid_unicode_utf8_acceptRanges), ("lodesman/ltl.arity", laid_lodesman_ltl_arity), ("lodesman/ltl.strength", laid_lodesman_ltl_strength), ("lodesman/ltl.right", laid_lodesman_ltl_right), ("lodesman/ltl.signs", laid_lodesman_ltl_signs), ("unicode/utf8.first", laid_unicode_utf8_first)], narrowed := true }
def LtlBackUptoSaid : Prop := ltlBackUptoRow.holds Tryd.pinned (OpenSpec.upto ltlBackSpec)

/-- 'lodesmanlaw02.LtlPlain', WHERE WHAT IT READS IS OF BULK AT MOST 1048576: true; the input reads as it did. -/
def ltlPlainUptoRow : OpenClaim := { program := "ytndchmmclfidgaadoor", sum := "7bb964647d4c1aad01bba3e477b5e2499cdbbd1d2d530c54ee3d399406110390", func := "lodesman/lodesmanlaw02.LtlPlain", spec := "ltlPlain", inPlace := ["internal/bytealg.IndexByteString", "internal/bytealg.IndexString"], unfollowed := true, recurses := true, named := ["unicode/utf8.first", "unicode/utf8.acceptRanges", "lodesman/ltl.arity", "lodesman/ltl.strength", "lodesman/ltl.right", "lodesman/ltl.signs", "internal/bytealg.MaxLen"], loops := true, plainKeys := false, apart := false, laid := [("unicode/utf8.acceptRanges", laid_unicode_utf8_acceptRanges), ("lodesman/ltl.arity", laid_lodesman_ltl_arity), ("lodesman/ltl.strength", laid_lodesman_ltl_strength), ("lodesman/ltl.right", laid_lodesman_ltl_right), ("lodesman/ltl.signs", laid_lodesman_ltl_signs), ("unicode/utf8.first", laid_unicode_utf8_first)], narrowed := true }
def LtlPlainUptoSaid : Prop := ltlPlainUptoRow.holds Tryd.pinned (OpenSpec.upto ltlPlainSpec)

/-- 'lodesmanlaw02.LtlNormal', WHERE WHAT IT READS IS OF BULK AT MOST 1048576: true; the input reads as it did. -/
def ltlNormalUptoRow : OpenClaim := { program := "ytndchmmclfidgaadoor", sum := "7bb964647d4c1aad01bba3e477b5e2499cdbbd1d2d530c54ee3d399406110390", func := "lodesman/lodesmanlaw02.LtlNormal", spec := "ltlNormal", inPlace := ["internal/bytealg.IndexByteString", "internal/bytealg.IndexString"], unfollowed := true, recurses := true, named := ["unicode/utf8.first", "unicode/utf8.acceptRanges", "lodesman/ltl.arity", "lodesman/ltl.strength", "lodesman/ltl.right", "lodesman/ltl.signs", "internal/bytealg.MaxLen"], loops := true, plainKeys := false, apart := false, laid := [("unicode/utf8.acceptRanges", laid_unicode_utf8_acceptRanges), ("lodesman/ltl.arity", laid_lodesman_ltl_arity), ("lodesman/ltl.strength", laid_lodesman_ltl_strength), ("lodesman/ltl.right", laid_lodesman_ltl_right), ("lodesman/ltl.signs", laid_lodesman_ltl_signs), ("unicode/utf8.first", laid_unicode_utf8_first)], narrowed := true }
def LtlNormalUptoSaid : Prop := ltlNormalUptoRow.holds Tryd.pinned (OpenSpec.upto ltlNormalSpec)

/-- 'lodesmanlaw02.LtlSizes', WHERE WHAT IT READS IS OF BULK AT MOST 1048576: true; the input reads as it did. -/
def ltlSizesUptoRow : OpenClaim := { program := "ytndchmmclfidgaadoor", sum := "7bb964647d4c1aad01bba3e477b5e2499cdbbd1d2d530c54ee3d399406110390", func := "lodesman/lodesmanlaw02.LtlSizes", spec := "ltlSizes", inPlace := ["internal/bytealg.IndexByteString", "internal/bytealg.IndexString"], unfollowed := true, recurses := true, named := ["unicode/utf8.first", "unicode/utf8.acceptRanges", "lodesman/ltl.arity", "lodesman/ltl.strength", "lodesman/ltl.right", "lodesman/ltl.signs", "internal/bytealg.MaxLen"], loops := true, plainKeys := false, apart := false, laid := [("unicode/utf8.acceptRanges", laid_unicode_utf8_acceptRanges), ("lodesman/ltl.arity", laid_lodesman_ltl_arity), ("lodesman/ltl.strength", laid_lodesman_ltl_strength), ("lodesman/ltl.right", laid_lodesman_ltl_right), ("lodesman/ltl.signs", laid_lodesman_ltl_signs), ("unicode/utf8.first", laid_unicode_utf8_first)], narrowed := true }
def LtlSizesUptoSaid : Prop := ltlSizesUptoRow.holds Tryd.pinned (OpenSpec.upto ltlSizesSpec)

/-- 'lodesmanlaw04.RewriteSimple', WHERE WHAT IT READS IS OF BULK AT MOST 1048576: true; the input reads as it did. -/
def rewriteSimpleUptoRow : OpenClaim := { program := "ytndchmmclfidgaadoor", sum := "7bb964647d4c1aad01bba3e477b5e2499cdbbd1d2d530c54ee3d399406110390", func := "lodesman/lodesmanlaw04.RewriteSimple", spec := "rewriteSimple", inPlace := ["internal/bytealg.IndexByteString", "internal/bytealg.IndexString"], unfollowed := true, recurses := true, named := ["unicode/utf8.first", "unicode/utf8.acceptRanges", "lodesman/ltl.arity", "lodesman/ltl.strength", "lodesman/ltl.right", "lodesman/ltl.signs", "internal/bytealg.MaxLen"], loops := true, plainKeys := false, apart := false, laid := [("unicode/utf8.acceptRanges", laid_unicode_utf8_acceptRanges), ("lodesman/ltl.arity", laid_lodesman_ltl_arity), ("lodesman/ltl.strength", laid_lodesman_ltl_strength), ("lodesman/ltl.right", laid_lodesman_ltl_right), ("lodesman/ltl.signs", laid_lodesman_ltl_signs), ("unicode/utf8.first", laid_unicode_utf8_first)], narrowed := true }
def RewriteSimpleUptoSaid : Prop := rewriteSimpleUptoRow.holds Tryd.pinned (OpenSpec.upto rewriteSimpleSpec)

/-- 'lodesmanlaw04.RewriteParts', WHERE WHAT IT READS IS OF BULK AT MOST 1048576: true; the input reads as it did. -/
def rewritePartsUptoRow : OpenClaim := { program := "ytndchmmclfidgaadoor", sum := "7bb964647d4c1aad01bba3e477b5e2499cdbbd1d2d530c54ee3d399406110390", func := "lodesman/lodesmanlaw04.RewriteParts", spec := "rewriteParts", inPlace := ["internal/bytealg.IndexByteString", "internal/bytealg.IndexString"], unfollowed := true, recurses := true, named := ["unicode/utf8.first", "unicode/utf8.acceptRanges", "lodesman/ltl.arity", "lodesman/ltl.strength", "lodesman/ltl.right", "lodesman/ltl.signs", "internal/bytealg.MaxLen"], loops := true, plainKeys := false, apart := false, laid := [("unicode/utf8.acceptRanges", laid_unicode_utf8_acceptRanges), ("lodesman/ltl.arity", laid_lodesman_ltl_arity), ("lodesman/ltl.strength", laid_lodesman_ltl_strength), ("lodesman/ltl.right", laid_lodesman_ltl_right), ("lodesman/ltl.signs", laid_lodesman_ltl_signs), ("unicode/utf8.first", laid_unicode_utf8_first)], narrowed := true }
def RewritePartsUptoSaid : Prop := rewritePartsUptoRow.holds Tryd.pinned (OpenSpec.upto rewritePartsSpec)

end Rows
end Go.Proofs.YtndchmmclfidgaaDoor
