import Derived.Test.YtndchmmclfidgaaDoorBdZ
import Derived.Test.YtndchmmclfidgaaDoorGxP
set_option maxRecDepth 100000
set_option linter.unusedSimpArgs false
set_option linter.unusedVariables false
set_option linter.unnecessarySimpa false
namespace Go.Sx
open Go Go.Lg Go.Proofs Go.ChangeShapes Go.WideShapes Go.RowKit
open Go.Proofs.YtndchmmclfidgaaDoor
noncomputable def glA : GL := ⟨fun g => if g = 0 then arityA else [], fun g c hc => by
  split at hc
  · obtain ⟨k, _, rfl⟩ := List.mem_map.1 hc
    exact .int _ _
  · cases hc⟩
noncomputable def laidWorld (os : Os) : World :=
  let w0 := World.holding Tryd.prog os ⟨#[], #[], []⟩
  { w0 with heap := w0.heap.modify 0 fun
      | .cells _ t frozen => .cells (arityL.map (Value.int .i64)).toArray t frozen
      | o => o }
def zeroC : Value := .agg ([Value.int .i64 0, .int .i64 0] ++ zeroF ++ zeroF ++ zeroF ++ zeroF ++ [Value.slice none 0 0, Value.slice none 0 0]).toArray
end Go.Sx
