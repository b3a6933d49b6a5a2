/- The law SentNumbers of narthexlaw11 returns true. Conditions: none beyond the row's own. -/
import Derived.Test.YtijnjnncgkhabaaFrame
import Derived.Test.YtijnjnncgkhabaaEvTq
import Derived.Test.YtijnjnncgkhabaaVOk
namespace Go.Proofs.Ytijnjnncgkhabaa
open Go.ChangeShapes Go.WideShapes Go.ChangeAt Go.RowKit

set_option maxRecDepth 1000000 in
set_option maxHeartbeats 0 in
theorem sentNumbers_ask : Ev.Kq.ask Ev.Kq.replQ Ev.XT 100 4 = true := by kernel_rfl
theorem sentNumbers_walk (w : World) : Calls Try.prog 4 #[] w fun e w' => e = .returned (.bool true) ∧ Below w.heap.size w w' :=
  Ev.closed Ev.Kq.Ref.replQ Ev.Loc.replF Ev.replOk sentNumbers_ask w

theorem sentNumbers_lifted (os : Os) (started : os.Started) (H : Type) (enc : TypeId × Value → H) :
    ReturnsInHanded {} Try.checked os 4 .any (Rows.sentNumbersSpec.pre6 enc Try.prog Try.f4 [] false)
      (Rows.sentNumbersSpec.post enc Try.prog Try.f4 false true false false) := by
  refine law_frame started enc Try.func4 (by kernel_rfl) rfl ?_ (by kernel_rfl) (by kernel_rfl) ?_
    (ChangeSpec.witness6 (enc := enc) (C := Try.checked) false ⟨#[], #[], []⟩ 8 (by kernel_rfl) (by kernel_rfl) (by kernel_rfl) (by kernel_rfl)) ?_
  · intro ds hl
    rw [Try.params4] at hl
    match ds, hl with
    | [], _ => rfl
  · rw [Try.params4]
    intro t ht
    cases ht
  · intro W base args ds ps hval hA hlt hfz hw
    rw [Try.params4] at hA hval hw
    obtain ⟨rfl, rfl, rfl⟩ := trodAll_none hA
    exact sentNumbers_walk W

theorem sentNumbers_holds : Rows.SentNumbersSaid :=
  OpenClaim.holds_of_wide 4 Try.f4 rfl rfl rfl rfl rfl rfl rfl ⟨rfl, rfl, rfl, rfl, rfl⟩ rfl rfl rfl rfl rfl (by kernel_rfl) Try.func4 (by kernel_rfl)
    (of_decide_eq_true (by kernel_rfl)) (by unfold Func.isWrapper; first | (rw [if_pos (by decide +kernel)]; kernel_rfl) | (rw [if_neg (by decide +kernel)]; exact ⟨rfl, rfl⟩))
    (fun os started H enc _ => sentNumbers_lifted os started H enc)
#print axioms sentNumbers_holds
end Go.Proofs.Ytijnjnncgkhabaa
