/- DERIVED. A fact of the row of FairNumbers. -/
import Derived.Test.YthknbcbkibbncaaGreatFa1
set_option linter.all false
namespace Go.Proofs.YthknbcbkibbncaaGreat
open Go.ChangeShapes Go.WideShapes Go.ChangeAt Go.RowKit
set_option maxRecDepth 1000000 in
set_option maxHeartbeats 0 in
theorem fairNumbers_f4 : (Rows.fairNumbersRow.named == Tryz.checked.prog.varsNamed 6) = true := by kernel_rfl
end Go.Proofs.YthknbcbkibbncaaGreat
