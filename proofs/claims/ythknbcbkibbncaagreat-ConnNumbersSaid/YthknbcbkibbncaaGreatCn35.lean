/- DERIVED. A fact of the row of ConnNumbers. -/
import Derived.Test.YthknbcbkibbncaaGreatCn1
set_option linter.all false
namespace Go.Proofs.YthknbcbkibbncaaGreat
open Go.ChangeShapes Go.WideShapes Go.ChangeAt Go.RowKit
set_option maxRecDepth 1000000 in
set_option maxHeartbeats 0 in
theorem connNumbers_f3 : (Rows.connNumbersRow.recurses == Tryz.checked.prog.recurses 3) = true := by kernel_rfl
end Go.Proofs.YthknbcbkibbncaaGreat
