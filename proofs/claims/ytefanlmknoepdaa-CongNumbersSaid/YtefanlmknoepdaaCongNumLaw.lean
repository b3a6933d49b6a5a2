/- The law CongNumbers of narthexlaw13 returns true. Conditions: none beyond the row's own. -/
import Derived.Test.YtefanlmknoepdaaFrame
import Derived.Test.YtefanlmknoepdaaCongNumbers
namespace Go.Proofs.Ytefanlmknoepdaa
open Go.ChangeShapes Go.WideShapes Go.ChangeAt Go.RowKit

theorem congNumbers_lifted (os : Os) (started : os.Started) (H : Type) (enc : TypeId × Value → H) :
    ReturnsInHanded {} Try.checked os 4 .any (Rows.congNumbersSpec.pre6 enc Try.prog Try.f4 [] false)
      (Rows.congNumbersSpec.post enc Try.prog Try.f4 false true false false) := by
  refine law_frame started enc Try.func4 (by kernel_rfl) rfl ?_ (by kernel_rfl) (by kernel_rfl) ?_
    (ChangeSpec.witness6 (enc := enc) (C := Try.checked) false ⟨#[], #[], []⟩ 8 (by kernel_rfl) (by kernel_rfl) (by kernel_rfl) (by kernel_rfl)) ?_
  · intro ds hl
    rw [Try.params4] at hl
    match ds, hl with
    | [], _ => rfl
  · rw [Try.params4]
    intro t ht
    cases ht
  · intro W base args ds ps hval hA hlt hfz hw
    rw [Try.params4] at hA
    obtain ⟨rfl, rfl, rfl⟩ := trodAll_none hA
    exact numbers_walk W

theorem congNumbers_holds : Rows.CongNumbersSaid :=
  OpenClaim.holds_of_wide 4 Try.f4 rfl rfl rfl rfl rfl rfl rfl ⟨rfl, rfl, rfl, rfl, rfl⟩ rfl rfl rfl rfl rfl (by kernel_rfl) Try.func4 (by kernel_rfl)
    (of_decide_eq_true (by kernel_rfl)) (by unfold Func.isWrapper; first | (rw [if_pos (by decide +kernel)]; kernel_rfl) | (rw [if_neg (by decide +kernel)]; exact ⟨rfl, rfl⟩))
    (fun os started H enc _ => congNumbers_lifted os started H enc)
#print axioms congNumbers_holds
end Go.Proofs.Ytefanlmknoepdaa
