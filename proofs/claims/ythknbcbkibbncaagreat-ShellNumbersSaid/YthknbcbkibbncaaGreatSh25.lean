/- DERIVED. A fact of the row of ShellNumbers. -/
import Derived.Test.YthknbcbkibbncaaGreatSh1
set_option linter.all false
namespace Go.Proofs.YthknbcbkibbncaaGreat
open Go.ChangeShapes Go.WideShapes Go.ChangeAt Go.RowKit
set_option maxRecDepth 1000000 in
set_option maxHeartbeats 0 in
theorem shellNumbers_f4 : (Rows.shellNumbersRow.named == Tryz.checked.prog.varsNamed 7) = true := by kernel_rfl
end Go.Proofs.YthknbcbkibbncaaGreat
