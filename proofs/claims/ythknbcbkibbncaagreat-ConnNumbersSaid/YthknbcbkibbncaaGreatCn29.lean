/- DERIVED. A level: lvCb. -/
import Derived.Test.YthknbcbkibbncaaGreatCn27
import Derived.Test.YthknbcbkibbncaaGreatCn28
set_option linter.all false
namespace Go.Proofs.YthknbcbkibbncaaGreat
open Ev
noncomputable def lvCb : Lv := lvCa.push 21 (OB.sw lvCa 100 21 [cb1]) (lvCa.sw_ok fun m hm => by
  rw [List.mem_singleton] at hm
  subst hm
  exact run_cb1)
end Go.Proofs.YthknbcbkibbncaaGreat
