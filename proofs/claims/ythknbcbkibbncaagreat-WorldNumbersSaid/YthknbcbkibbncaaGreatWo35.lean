/- DERIVED. A level: lvWb. -/
import Derived.Test.YthknbcbkibbncaaGreatWo13
import Derived.Test.YthknbcbkibbncaaGreatWo14
import Derived.Test.YthknbcbkibbncaaGreatWo19
import Derived.Test.YthknbcbkibbncaaGreatWo28
import Derived.Test.YthknbcbkibbncaaGreatWo29
import Derived.Test.YthknbcbkibbncaaGreatWo30
import Derived.Test.YthknbcbkibbncaaGreatWo31
import Derived.Test.YthknbcbkibbncaaGreatWo33
import Derived.Test.YthknbcbkibbncaaGreatWo34
set_option linter.all false
namespace Go.Proofs.YthknbcbkibbncaaGreat
open Ev
noncomputable def lvWb : Lv := lvWa.push 45 (OB.sw lvWa 100 45 [wb20, wb27, wb30, wb31, wb34]) (lvWa.sw_ok fun m hm => by
  simp only [List.mem_cons, List.not_mem_nil, or_false] at hm
  rcases hm with rfl | rfl | rfl | rfl | rfl
  · exact run_wb20
  · exact run_wb27
  · exact run_wb30
  · exact run_wb31
  · exact run_wb34)
end Go.Proofs.YthknbcbkibbncaaGreat

/- DERIVED. A level: lvWc. -/
namespace Go.Proofs.YthknbcbkibbncaaGreat
open Ev
noncomputable def lvWc : Lv := lvWb.push 110 (OB.memo [⟨[nU 6], .b false⟩, ⟨[nU 5], .b false⟩]) (lv0.memo_ok (n := 100) fun m hm => by
  simp only [List.mem_cons, List.not_mem_nil, or_false] at hm
  rcases hm with rfl | rfl
  · exact ⟨rfl, rfl, chance6⟩
  · exact ⟨rfl, rfl, chance5⟩)
end Go.Proofs.YthknbcbkibbncaaGreat

/- DERIVED. A level: lvWd. -/
namespace Go.Proofs.YthknbcbkibbncaaGreat
open Ev
noncomputable def lvWd : Lv := lvWc.push 50 (OB.memo [⟨[], .b true⟩]) (lvWm.memo_ok (n := 100) fun m hm => by
  rw [List.mem_singleton] at hm
  subst hm
  exact ⟨rfl, rfl, knownW⟩)
end Go.Proofs.YthknbcbkibbncaaGreat
