/- The law ShellNumbers of narthexlaw28 returns true. Conditions: none beyond the row's own. -/
import Derived.Test.YthknbcbkibbncaaGreatSh1
import Derived.Test.YthknbcbkibbncaaGreatSh21
import Derived.Test.YthknbcbkibbncaaGreatSh22
import Derived.Test.YthknbcbkibbncaaGreatSh23
import Derived.Test.YthknbcbkibbncaaGreatSh24
import Derived.Test.YthknbcbkibbncaaGreatSh25
set_option linter.all false
namespace Go.Proofs.YthknbcbkibbncaaGreat
open Go.ChangeShapes Go.WideShapes Go.ChangeAt Go.RowKit

theorem shellNumbers_walk (w : World) : Calls Tryz.prog 7 #[] w fun e w' => e = .returned (.bool true) ∧ Below w.heap.size w w' :=
  Ev.Lv.closed Ev.lv0 shellNumbers_ask w

theorem shellNumbers_lifted (os : Os) (started : os.Started) (H : Type) (enc : TypeId × Value → H) :
    ReturnsInHanded {} Tryz.checked os 7 .any (Rows.shellNumbersSpec.pre6 enc Tryz.prog Tryz.f7 [] false)
      (Rows.shellNumbersSpec.post enc Tryz.prog Tryz.f7 false true false false) := by
  refine law_frame started enc Tryz.func7 (by kernel_rfl) rfl ?_ (by kernel_rfl) (by kernel_rfl) ?_
    (ChangeSpec.witness6 (enc := enc) (C := Tryz.checked) false ⟨#[], #[], []⟩ 8 (by kernel_rfl) (by kernel_rfl) (by kernel_rfl) (by kernel_rfl)) ?_
  · intro ds hl
    rw [Tryz.params7] at hl
    match ds, hl with
    | [], _ => rfl
  · rw [Tryz.params7]
    intro t ht
    cases ht
  · intro W base args ds ps hval hA hlt hfz hw
    rw [Tryz.params7] at hA hval hw
    obtain ⟨rfl, rfl, rfl⟩ := trodAll_none hA
    exact shellNumbers_walk W

set_option maxRecDepth 1000000 in
theorem shellNumbers_closed : joinedFacts Tryz.checked.prog 7 Tryz.f7 Rows.shellNumbersSpec Rows.shellNumbersRow = true := by
  unfold joinedFacts
  rw [shellNumbers_f1, shellNumbers_f2, shellNumbers_f3, shellNumbers_f4]
  kernel_rfl

theorem shellNumbers_holds : Rows.ShellNumbersSaid :=
  OpenClaim.holds_of_wide 7 Tryz.f7 rfl rfl rfl rfl rfl rfl rfl ⟨rfl, rfl, rfl, rfl, rfl⟩ rfl rfl rfl rfl rfl (by kernel_rfl) Tryz.func7 shellNumbers_closed
    (of_decide_eq_true (by kernel_rfl)) (by unfold Func.isWrapper; first | (rw [if_pos (by decide +kernel)]; kernel_rfl) | (rw [if_neg (by decide +kernel)]; exact ⟨rfl, rfl⟩))
    (fun os started H enc _ => shellNumbers_lifted os started H enc)
#print axioms shellNumbers_holds
end Go.Proofs.YthknbcbkibbncaaGreat
