/- DERIVED. A fact of the row of ListenerNumbers. -/
import Derived.Test.YthknbcbkibbncaaGreatLi1
set_option linter.all false
namespace Go.Proofs.YthknbcbkibbncaaGreat
open Go.ChangeShapes Go.WideShapes Go.ChangeAt Go.RowKit
set_option maxRecDepth 1000000 in
set_option maxHeartbeats 0 in
theorem listenerNumbers_f2 : (Rows.listenerNumbersRow.unfollowed == Tryz.checked.prog.unfollowed 4) = true := by kernel_rfl
end Go.Proofs.YthknbcbkibbncaaGreat
