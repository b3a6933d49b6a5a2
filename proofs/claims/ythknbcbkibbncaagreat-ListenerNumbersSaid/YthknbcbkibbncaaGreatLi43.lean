/- DERIVED. A level: lvLc. -/
import Derived.Test.YthknbcbkibbncaaGreatLi17
import Derived.Test.YthknbcbkibbncaaGreatLi38
import Derived.Test.YthknbcbkibbncaaGreatLi39
import Derived.Test.YthknbcbkibbncaaGreatLi40
import Derived.Test.YthknbcbkibbncaaGreatLi41
import Derived.Test.YthknbcbkibbncaaGreatLi42
set_option linter.all false
namespace Go.Proofs.YthknbcbkibbncaaGreat
open Ev
noncomputable def lvLc : Lv := lvLb.push 35 (OB.sw lvLb 100 35 [lc2, lc3, lc4, lc5]) (lvLb.sw_ok fun m hm => by
  simp only [List.mem_cons, List.not_mem_nil, or_false] at hm
  rcases hm with rfl | rfl | rfl | rfl
  · exact run_lc2
  · exact run_lc3
  · exact run_lc4
  · exact run_lc5)
end Go.Proofs.YthknbcbkibbncaaGreat

/- DERIVED. A level: lvLd. -/
namespace Go.Proofs.YthknbcbkibbncaaGreat
open Ev
noncomputable def lvLd : Lv := lvLc.push 42 (OB.memo [⟨[], .b true⟩]) (lvLk.memo_ok (n := 100) fun m hm => by
  rw [List.mem_singleton] at hm
  subst hm
  exact ⟨rfl, rfl, knownL⟩)
end Go.Proofs.YthknbcbkibbncaaGreat
