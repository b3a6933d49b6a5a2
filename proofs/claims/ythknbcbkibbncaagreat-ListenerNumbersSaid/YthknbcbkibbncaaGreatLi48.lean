/- DERIVED. A fact of the row of ListenerNumbers. -/
import Derived.Test.YthknbcbkibbncaaGreatLi1
set_option linter.all false
namespace Go.Proofs.YthknbcbkibbncaaGreat
open Go.ChangeShapes Go.WideShapes Go.ChangeAt Go.RowKit
set_option maxRecDepth 1000000 in
set_option maxHeartbeats 0 in
theorem listenerNumbers_f4 : (Rows.listenerNumbersRow.named == Tryz.checked.prog.varsNamed 4) = true := by kernel_rfl
end Go.Proofs.YthknbcbkibbncaaGreat
