/- DERIVED. A level: lvFd. -/
import Derived.Test.YthknbcbkibbncaaGreatFa29
import Derived.Test.YthknbcbkibbncaaGreatFa30
set_option linter.all false
namespace Go.Proofs.YthknbcbkibbncaaGreat
open Ev
noncomputable def lvFd : Lv := lvFc.push 56 (OB.memo [⟨[], .b true⟩]) (lvFc.memo_ok (n := 100) fun m hm => by
  rw [List.mem_singleton] at hm
  subst hm
  exact ⟨rfl, rfl, knownF⟩)
end Go.Proofs.YthknbcbkibbncaaGreat
