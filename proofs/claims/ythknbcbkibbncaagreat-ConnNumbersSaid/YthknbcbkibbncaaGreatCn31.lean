/- DERIVED. A level: lvCc. -/
import Derived.Test.YthknbcbkibbncaaGreatCn18
import Derived.Test.YthknbcbkibbncaaGreatCn29
import Derived.Test.YthknbcbkibbncaaGreatCn30
set_option linter.all false
namespace Go.Proofs.YthknbcbkibbncaaGreat
open Ev
noncomputable def lvCc : Lv := lvCb.push 23 (OB.sw lvCb 100 23 [cb11]) (lvCb.sw_ok fun m hm => by
  rw [List.mem_singleton] at hm
  subst hm
  exact run_cb11)
end Go.Proofs.YthknbcbkibbncaaGreat

/- DERIVED. A level: lvCd. -/
namespace Go.Proofs.YthknbcbkibbncaaGreat
open Ev
noncomputable def lvCd : Lv := lvCc.push 28 (OB.memo [⟨[], .b true⟩]) (lvCk.memo_ok (n := 100) fun m hm => by
  rw [List.mem_singleton] at hm
  subst hm
  exact ⟨rfl, rfl, knownC⟩)
end Go.Proofs.YthknbcbkibbncaaGreat
