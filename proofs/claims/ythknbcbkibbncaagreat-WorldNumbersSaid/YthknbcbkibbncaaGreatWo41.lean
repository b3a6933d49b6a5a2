/- The law WorldNumbers of narthexlaw26 returns true. Conditions: none beyond the row's own. -/
import Derived.Test.YthknbcbkibbncaaGreatWo1
import Derived.Test.YthknbcbkibbncaaGreatWo36
import Derived.Test.YthknbcbkibbncaaGreatWo37
import Derived.Test.YthknbcbkibbncaaGreatWo38
import Derived.Test.YthknbcbkibbncaaGreatWo39
import Derived.Test.YthknbcbkibbncaaGreatWo40
set_option linter.all false
namespace Go.Proofs.YthknbcbkibbncaaGreat
open Go.ChangeShapes Go.WideShapes Go.ChangeAt Go.RowKit

theorem worldNumbers_walk (w : World) : Calls Tryz.prog 5 #[] w fun e w' => e = .returned (.bool true) ∧ Below w.heap.size w w' :=
  Ev.Lv.closed lvWd worldNumbers_ask w

theorem worldNumbers_lifted (os : Os) (started : os.Started) (H : Type) (enc : TypeId × Value → H) :
    ReturnsInHanded {} Tryz.checked os 5 .any (Rows.worldNumbersSpec.pre6 enc Tryz.prog Tryz.f5 [] false)
      (Rows.worldNumbersSpec.post enc Tryz.prog Tryz.f5 false true false false) := by
  refine law_frame started enc Tryz.func5 (by kernel_rfl) rfl ?_ (by kernel_rfl) (by kernel_rfl) ?_
    (ChangeSpec.witness6 (enc := enc) (C := Tryz.checked) false ⟨#[], #[], []⟩ 8 (by kernel_rfl) (by kernel_rfl) (by kernel_rfl) (by kernel_rfl)) ?_
  · intro ds hl
    rw [Tryz.params5] at hl
    match ds, hl with
    | [], _ => rfl
  · rw [Tryz.params5]
    intro t ht
    cases ht
  · intro W base args ds ps hval hA hlt hfz hw
    rw [Tryz.params5] at hA hval hw
    obtain ⟨rfl, rfl, rfl⟩ := trodAll_none hA
    exact worldNumbers_walk W

set_option maxRecDepth 1000000 in
theorem worldNumbers_closed : joinedFacts Tryz.checked.prog 5 Tryz.f5 Rows.worldNumbersSpec Rows.worldNumbersRow = true := by
  unfold joinedFacts
  rw [worldNumbers_f1, worldNumbers_f2, worldNumbers_f3, worldNumbers_f4]
  kernel_rfl

theorem worldNumbers_holds : Rows.WorldNumbersSaid :=
  OpenClaim.holds_of_wide 5 Tryz.f5 rfl rfl rfl rfl rfl rfl rfl ⟨rfl, rfl, rfl, rfl, rfl⟩ rfl rfl rfl rfl rfl (by kernel_rfl) Tryz.func5 worldNumbers_closed
    (of_decide_eq_true (by kernel_rfl)) (by unfold Func.isWrapper; first | (rw [if_pos (by decide +kernel)]; kernel_rfl) | (rw [if_neg (by decide +kernel)]; exact ⟨rfl, rfl⟩))
    (fun os started H enc _ => worldNumbers_lifted os started H enc)
#print axioms worldNumbers_holds
end Go.Proofs.YthknbcbkibbncaaGreat
