/- DERIVED. A level: lvFb. -/
import Derived.Test.YthknbcbkibbncaaGreatFa21
import Derived.Test.YthknbcbkibbncaaGreatFa22
import Derived.Test.YthknbcbkibbncaaGreatFa27
import Derived.Test.YthknbcbkibbncaaGreatFa28
set_option linter.all false
namespace Go.Proofs.YthknbcbkibbncaaGreat
open Ev
noncomputable def lvFb : Lv := lvFa.push 45 (OB.sw lvFa 100 45 [fb3]) (lvFa.sw_ok fun m hm => by
  rw [List.mem_singleton] at hm
  subst hm
  exact run_fb3)
end Go.Proofs.YthknbcbkibbncaaGreat

/- DERIVED. A level: lvFc. -/
namespace Go.Proofs.YthknbcbkibbncaaGreat
open Ev
noncomputable def lvFc : Lv := lvFb.push 110 (OB.memo [⟨[nU 8], .b false⟩, ⟨[nU 5], .b false⟩]) (lv0.memo_ok (n := 100) fun m hm => by
  simp only [List.mem_cons, List.not_mem_nil, or_false] at hm
  rcases hm with rfl | rfl
  · exact ⟨rfl, rfl, chance8⟩
  · exact ⟨rfl, rfl, chance5⟩)
end Go.Proofs.YthknbcbkibbncaaGreat
