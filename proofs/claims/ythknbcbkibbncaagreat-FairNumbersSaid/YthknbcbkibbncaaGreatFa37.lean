/- The law FairNumbers of narthexlaw27 returns true. Conditions: none beyond the row's own. -/
import Derived.Test.YthknbcbkibbncaaGreatFa1
import Derived.Test.YthknbcbkibbncaaGreatFa32
import Derived.Test.YthknbcbkibbncaaGreatFa33
import Derived.Test.YthknbcbkibbncaaGreatFa34
import Derived.Test.YthknbcbkibbncaaGreatFa35
import Derived.Test.YthknbcbkibbncaaGreatFa36
set_option linter.all false
namespace Go.Proofs.YthknbcbkibbncaaGreat
open Go.ChangeShapes Go.WideShapes Go.ChangeAt Go.RowKit

theorem fairNumbers_walk (w : World) : Calls Tryz.prog 6 #[] w fun e w' => e = .returned (.bool true) ∧ Below w.heap.size w w' :=
  Ev.Lv.closed lvFd fairNumbers_ask w

theorem fairNumbers_lifted (os : Os) (started : os.Started) (H : Type) (enc : TypeId × Value → H) :
    ReturnsInHanded {} Tryz.checked os 6 .any (Rows.fairNumbersSpec.pre6 enc Tryz.prog Tryz.f6 [] false)
      (Rows.fairNumbersSpec.post enc Tryz.prog Tryz.f6 false true false false) := by
  refine law_frame started enc Tryz.func6 (by kernel_rfl) rfl ?_ (by kernel_rfl) (by kernel_rfl) ?_
    (ChangeSpec.witness6 (enc := enc) (C := Tryz.checked) false ⟨#[], #[], []⟩ 8 (by kernel_rfl) (by kernel_rfl) (by kernel_rfl) (by kernel_rfl)) ?_
  · intro ds hl
    rw [Tryz.params6] at hl
    match ds, hl with
    | [], _ => rfl
  · rw [Tryz.params6]
    intro t ht
    cases ht
  · intro W base args ds ps hval hA hlt hfz hw
    rw [Tryz.params6] at hA hval hw
    obtain ⟨rfl, rfl, rfl⟩ := trodAll_none hA
    exact fairNumbers_walk W

set_option maxRecDepth 1000000 in
theorem fairNumbers_closed : joinedFacts Tryz.checked.prog 6 Tryz.f6 Rows.fairNumbersSpec Rows.fairNumbersRow = true := by
  unfold joinedFacts
  rw [fairNumbers_f1, fairNumbers_f2, fairNumbers_f3, fairNumbers_f4]
  kernel_rfl

theorem fairNumbers_holds : Rows.FairNumbersSaid :=
  OpenClaim.holds_of_wide 6 Tryz.f6 rfl rfl rfl rfl rfl rfl rfl ⟨rfl, rfl, rfl, rfl, rfl⟩ rfl rfl rfl rfl rfl (by kernel_rfl) Tryz.func6 fairNumbers_closed
    (of_decide_eq_true (by kernel_rfl)) (by unfold Func.isWrapper; first | (rw [if_pos (by decide +kernel)]; kernel_rfl) | (rw [if_neg (by decide +kernel)]; exact ⟨rfl, rfl⟩))
    (fun os started H enc _ => fairNumbers_lifted os started H enc)
#print axioms fairNumbers_holds
end Go.Proofs.YthknbcbkibbncaaGreat
