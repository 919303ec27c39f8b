import Derived.Test.YtlhdjjnjhpfgoaaDoorQTkH
import Derived.Test.YtlhdjjnjhpfgoaaDoorLgAv
import Derived.Test.YtlhdjjnjhpfgoaaDoorQSxJ
set_option maxRecDepth 100000
set_option maxHeartbeats 4000000
set_option linter.unusedSimpArgs false
set_option linter.unusedVariables false
set_option linter.unnecessarySimpa false
namespace Go.Sx
open Go Go.Lg Go.Proofs
section
variable {gl : GL}
mutual
theorem shrt_of_shor : ∀ f : Fm, ShorF f → Shrt f
  | .mk o v l, h => by
    simp only [ShorF] at h
    simp only [Shrt]
    exact ⟨by omega, shrtL_of_shor l h.2⟩
theorem shrtL_of_shor : ∀ l : List Fm, ShorL l → ShrtL l
  | [], _ => trivial
  | f :: l, h => ⟨shrt_of_shor f h.1, shrtL_of_shor l h.2⟩
end
end
end Go.Sx
