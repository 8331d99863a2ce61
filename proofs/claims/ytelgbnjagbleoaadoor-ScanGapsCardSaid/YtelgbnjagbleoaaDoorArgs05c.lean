/- The law ScanGaps, its list as an argument. No condition. -/
import Derived.Test.YtelgbnjagbleoaaDoorLaw05c
import Derived.Test.YtelgbnjagbleoaaDoorArgs05
set_option linter.unusedSimpArgs false
set_option linter.unusedVariables false
set_option linter.deprecated false
namespace Go.Proofs.YtelgbnjagbleoaaDoor
open Go.Abs Go.RowKit
theorem l_scanGaps' (l : List Int) (h : ∀ a ∈ l, u8ok a) : ACalls seat 4 [.vec (cs u8c l) l.length none] [] (fun x _ => x = .ret (.bool true)) := by
  rw [cs_u8]; exact l_scanGaps l h
end Go.Proofs.YtelgbnjagbleoaaDoor
