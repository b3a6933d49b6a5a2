/- DERIVED. A run of the kernel: known(). -/
import Derived.Test.YthknbcbkibbncaaGreatLi16
set_option linter.all false
namespace Go.Proofs.YthknbcbkibbncaaGreat
open Ev
set_option maxRecDepth 1000000 in
set_option maxHeartbeats 0 in
theorem knownL : Kq.askR lvLk.q lvLk.x 100 42 ⟨[], .b true⟩ = true := by kernel_rfl
end Go.Proofs.YthknbcbkibbncaaGreat
