/- DERIVED. A level: lvFa. -/
import Derived.Test.YthknbcbkibbncaaGreatFa20
import Derived.Test.YthknbcbkibbncaaGreatFa24
import Derived.Test.YthknbcbkibbncaaGreatFa25
import Derived.Test.YthknbcbkibbncaaGreatFa26
set_option linter.all false
namespace Go.Proofs.YthknbcbkibbncaaGreat
open Ev
noncomputable def lvFa : Lv := lv0.push 213 (OB.sw lv0 100 213 [fa1, fa2, fa6]) (lv0.sw_ok fun m hm => by
  simp only [List.mem_cons, List.not_mem_nil, or_false] at hm
  rcases hm with rfl | rfl | rfl
  · exact run_fa1
  · exact run_fa2
  · exact run_fa6)
end Go.Proofs.YthknbcbkibbncaaGreat
