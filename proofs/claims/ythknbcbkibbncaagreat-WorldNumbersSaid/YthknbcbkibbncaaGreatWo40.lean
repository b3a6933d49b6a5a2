/- DERIVED. A fact of the row of WorldNumbers. -/
import Derived.Test.YthknbcbkibbncaaGreatWo1
set_option linter.all false
namespace Go.Proofs.YthknbcbkibbncaaGreat
open Go.ChangeShapes Go.WideShapes Go.ChangeAt Go.RowKit
set_option maxRecDepth 1000000 in
set_option maxHeartbeats 0 in
theorem worldNumbers_f4 : (Rows.worldNumbersRow.named == Tryz.checked.prog.varsNamed 5) = true := by kernel_rfl
end Go.Proofs.YthknbcbkibbncaaGreat
