/- The law SenderNumbers of narthexlaw16 returns true. Conditions: none beyond the row's own. -/
import Derived.Test.YtijnjnncgkhabaaFrame
import Derived.Test.YtijnjnncgkhabaaEvTq
import Derived.Test.YtijnjnncgkhabaaVOk
namespace Go.Proofs.Ytijnjnncgkhabaa
open Go.ChangeShapes Go.WideShapes Go.ChangeAt Go.RowKit

set_option maxRecDepth 1000000 in
set_option maxHeartbeats 0 in
theorem senderNumbers_ask : Ev.Kq.ask Ev.Kq.replQ Ev.XT 100 7 = true := by kernel_rfl
theorem senderNumbers_walk (w : World) : Calls Try.prog 7 #[] w fun e w' => e = .returned (.bool true) ∧ Below w.heap.size w w' :=
  Ev.closed Ev.Kq.Ref.replQ Ev.Loc.replF Ev.replOk senderNumbers_ask w

theorem senderNumbers_lifted (os : Os) (started : os.Started) (H : Type) (enc : TypeId × Value → H) :
    ReturnsInHanded {} Try.checked os 7 .any (Rows.senderNumbersSpec.pre6 enc Try.prog Try.f7 [] false)
      (Rows.senderNumbersSpec.post enc Try.prog Try.f7 false true false false) := by
  refine law_frame started enc Try.func7 (by kernel_rfl) rfl ?_ (by kernel_rfl) (by kernel_rfl) ?_
    (ChangeSpec.witness6 (enc := enc) (C := Try.checked) false ⟨#[], #[], []⟩ 8 (by kernel_rfl) (by kernel_rfl) (by kernel_rfl) (by kernel_rfl)) ?_
  · intro ds hl
    rw [Try.params7] at hl
    match ds, hl with
    | [], _ => rfl
  · rw [Try.params7]
    intro t ht
    cases ht
  · intro W base args ds ps hval hA hlt hfz hw
    rw [Try.params7] at hA hval hw
    obtain ⟨rfl, rfl, rfl⟩ := trodAll_none hA
    exact senderNumbers_walk W

theorem senderNumbers_holds : Rows.SenderNumbersSaid :=
  OpenClaim.holds_of_wide 7 Try.f7 rfl rfl rfl rfl rfl rfl rfl ⟨rfl, rfl, rfl, rfl, rfl⟩ rfl rfl rfl rfl rfl (by kernel_rfl) Try.func7 (by kernel_rfl)
    (of_decide_eq_true (by kernel_rfl)) (by unfold Func.isWrapper; first | (rw [if_pos (by decide +kernel)]; kernel_rfl) | (rw [if_neg (by decide +kernel)]; exact ⟨rfl, rfl⟩))
    (fun os started H enc _ => senderNumbers_lifted os started H enc)
#print axioms senderNumbers_holds
end Go.Proofs.Ytijnjnncgkhabaa
