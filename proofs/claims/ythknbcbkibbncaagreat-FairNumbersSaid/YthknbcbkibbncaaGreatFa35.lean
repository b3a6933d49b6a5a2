/- DERIVED. A fact of the row of FairNumbers. -/
import Derived.Test.YthknbcbkibbncaaGreatFa1
set_option linter.all false
namespace Go.Proofs.YthknbcbkibbncaaGreat
open Go.ChangeShapes Go.WideShapes Go.ChangeAt Go.RowKit
set_option maxRecDepth 1000000 in
set_option maxHeartbeats 0 in
theorem fairNumbers_f3 : (Rows.fairNumbersRow.recurses == Tryz.checked.prog.recurses 6) = true := by kernel_rfl
end Go.Proofs.YthknbcbkibbncaaGreat
