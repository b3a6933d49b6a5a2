/- The law ConnNumbers of narthexlaw22 returns true. Conditions: none beyond the row's own. -/
import Derived.Test.YthknbcbkibbncaaGreatCn1
import Derived.Test.YthknbcbkibbncaaGreatCn32
import Derived.Test.YthknbcbkibbncaaGreatCn33
import Derived.Test.YthknbcbkibbncaaGreatCn34
import Derived.Test.YthknbcbkibbncaaGreatCn35
import Derived.Test.YthknbcbkibbncaaGreatCn36
set_option linter.all false
namespace Go.Proofs.YthknbcbkibbncaaGreat
open Go.ChangeShapes Go.WideShapes Go.ChangeAt Go.RowKit

theorem connNumbers_walk (w : World) : Calls Tryz.prog 3 #[] w fun e w' => e = .returned (.bool true) ∧ Below w.heap.size w w' :=
  Ev.Lv.closed lvCd connNumbers_ask w

theorem connNumbers_lifted (os : Os) (started : os.Started) (H : Type) (enc : TypeId × Value → H) :
    ReturnsInHanded {} Tryz.checked os 3 .any (Rows.connNumbersSpec.pre6 enc Tryz.prog Tryz.f3 [] false)
      (Rows.connNumbersSpec.post enc Tryz.prog Tryz.f3 false true false false) := by
  refine law_frame started enc Tryz.func3 (by kernel_rfl) rfl ?_ (by kernel_rfl) (by kernel_rfl) ?_
    (ChangeSpec.witness6 (enc := enc) (C := Tryz.checked) false ⟨#[], #[], []⟩ 8 (by kernel_rfl) (by kernel_rfl) (by kernel_rfl) (by kernel_rfl)) ?_
  · intro ds hl
    rw [Tryz.params3] at hl
    match ds, hl with
    | [], _ => rfl
  · rw [Tryz.params3]
    intro t ht
    cases ht
  · intro W base args ds ps hval hA hlt hfz hw
    rw [Tryz.params3] at hA hval hw
    obtain ⟨rfl, rfl, rfl⟩ := trodAll_none hA
    exact connNumbers_walk W

set_option maxRecDepth 1000000 in
theorem connNumbers_closed : joinedFacts Tryz.checked.prog 3 Tryz.f3 Rows.connNumbersSpec Rows.connNumbersRow = true := by
  unfold joinedFacts
  rw [connNumbers_f1, connNumbers_f2, connNumbers_f3, connNumbers_f4]
  kernel_rfl

theorem connNumbers_holds : Rows.ConnNumbersSaid :=
  OpenClaim.holds_of_wide 3 Tryz.f3 rfl rfl rfl rfl rfl rfl rfl ⟨rfl, rfl, rfl, rfl, rfl⟩ rfl rfl rfl rfl rfl (by kernel_rfl) Tryz.func3 connNumbers_closed
    (of_decide_eq_true (by kernel_rfl)) (by unfold Func.isWrapper; first | (rw [if_pos (by decide +kernel)]; kernel_rfl) | (rw [if_neg (by decide +kernel)]; exact ⟨rfl, rfl⟩))
    (fun os started H enc _ => connNumbers_lifted os started H enc)
#print axioms connNumbers_holds
end Go.Proofs.YthknbcbkibbncaaGreat
