/- The law ReceiverNumbers of narthexlaw17 returns true. Conditions: none beyond the row's own. -/
import Derived.Test.YtijnjnncgkhabaaFrame
import Derived.Test.YtijnjnncgkhabaaEvTq
import Derived.Test.YtijnjnncgkhabaaVOk
namespace Go.Proofs.Ytijnjnncgkhabaa
open Go.ChangeShapes Go.WideShapes Go.ChangeAt Go.RowKit

set_option maxRecDepth 1000000 in
set_option maxHeartbeats 0 in
theorem receiverNumbers_ask : Ev.Kq.ask Ev.Kq.replQ Ev.XT 100 6 = true := by kernel_rfl
theorem receiverNumbers_walk (w : World) : Calls Try.prog 6 #[] w fun e w' => e = .returned (.bool true) ∧ Below w.heap.size w w' :=
  Ev.closed Ev.Kq.Ref.replQ Ev.Loc.replF Ev.replOk receiverNumbers_ask w

theorem receiverNumbers_lifted (os : Os) (started : os.Started) (H : Type) (enc : TypeId × Value → H) :
    ReturnsInHanded {} Try.checked os 6 .any (Rows.receiverNumbersSpec.pre6 enc Try.prog Try.f6 [] false)
      (Rows.receiverNumbersSpec.post enc Try.prog Try.f6 false true false false) := by
  refine law_frame started enc Try.func6 (by kernel_rfl) rfl ?_ (by kernel_rfl) (by kernel_rfl) ?_
    (ChangeSpec.witness6 (enc := enc) (C := Try.checked) false ⟨#[], #[], []⟩ 8 (by kernel_rfl) (by kernel_rfl) (by kernel_rfl) (by kernel_rfl)) ?_
  · intro ds hl
    rw [Try.params6] at hl
    match ds, hl with
    | [], _ => rfl
  · rw [Try.params6]
    intro t ht
    cases ht
  · intro W base args ds ps hval hA hlt hfz hw
    rw [Try.params6] at hA hval hw
    obtain ⟨rfl, rfl, rfl⟩ := trodAll_none hA
    exact receiverNumbers_walk W

theorem receiverNumbers_holds : Rows.ReceiverNumbersSaid :=
  OpenClaim.holds_of_wide 6 Try.f6 rfl rfl rfl rfl rfl rfl rfl ⟨rfl, rfl, rfl, rfl, rfl⟩ rfl rfl rfl rfl rfl (by kernel_rfl) Try.func6 (by kernel_rfl)
    (of_decide_eq_true (by kernel_rfl)) (by unfold Func.isWrapper; first | (rw [if_pos (by decide +kernel)]; kernel_rfl) | (rw [if_neg (by decide +kernel)]; exact ⟨rfl, rfl⟩))
    (fun os started H enc _ => receiverNumbers_lifted os started H enc)
#print axioms receiverNumbers_holds
end Go.Proofs.Ytijnjnncgkhabaa
