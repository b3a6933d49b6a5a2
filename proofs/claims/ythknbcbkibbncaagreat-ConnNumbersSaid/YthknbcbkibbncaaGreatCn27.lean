/- DERIVED. A level: lvCa. -/
import Derived.Test.YthknbcbkibbncaaGreatCn12
import Derived.Test.YthknbcbkibbncaaGreatCn19
import Derived.Test.YthknbcbkibbncaaGreatCn21
import Derived.Test.YthknbcbkibbncaaGreatCn22
import Derived.Test.YthknbcbkibbncaaGreatCn23
import Derived.Test.YthknbcbkibbncaaGreatCn24
import Derived.Test.YthknbcbkibbncaaGreatCn26
set_option linter.all false
namespace Go.Proofs.YthknbcbkibbncaaGreat
open Ev
noncomputable def lvCa : Lv := lv0.push 178 (OB.sw lv0 100 178 [ca1, ca2, ca4, ca16, ca17, ca19]) (lv0.sw_ok fun m hm => by
  simp only [List.mem_cons, List.not_mem_nil, or_false] at hm
  rcases hm with rfl | rfl | rfl | rfl | rfl | rfl
  · exact run_ca1
  · exact run_ca2
  · exact run_ca4
  · exact run_ca16
  · exact run_ca17
  · exact run_ca19)
end Go.Proofs.YthknbcbkibbncaaGreat
