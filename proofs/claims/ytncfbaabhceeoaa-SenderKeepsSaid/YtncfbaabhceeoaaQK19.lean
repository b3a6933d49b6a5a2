/- The law SenderKeeps of narthexlaw16 returns true for every input, and the arguments read afterwards as before. Conditions: none beyond the row's own. -/
import Derived.Test.YtncfbaabhceeoaaQK5
import Derived.Test.YtncfbaabhceeoaaQK18
set_option linter.all false
namespace Go.Proofs.Ytncfbaabhceeoaa
open Go.ChangeShapes Go.WideShapes Go.ChangeAt Go.RowKit

set_option maxRecDepth 100000 in
theorem senderKeeps_lifted (os : Os) (started : os.Started) (H : Type) (enc : TypeId × Value → H) :
    ReturnsInHanded {} Try.checked os 4 .any (Rows.senderKeepsSpec.pre6 enc Try.prog Try.f4 [] false)
      (Rows.senderKeepsSpec.post enc Try.prog Try.f4 false true false false) := by
  refine law_frame started enc Try.func4 (by kernel_rfl) rfl ?_ (by kernel_rfl) (by kernel_rfl) ?_
    (ChangeSpec.witness6 (enc := enc) (C := Try.checked) false ⟨#[], #[.slice none 0 0], []⟩ 8 (by kernel_rfl) (by kernel_rfl) (by kernel_rfl) (by kernel_rfl)) ?_
  · intro ds hl
    rw [Try.params4] at hl
    match ds, hl with
    | [d1], _ => rfl
  · rw [Try.params4]
    intro t ht
    simp only [List.mem_cons, List.not_mem_nil, or_false] at ht
    rcases ht with rfl
    all_goals exact ⟨by kernel_rfl, of_decide_eq_true (by kernel_rfl)⟩
  · intro W base args ds ps hval hA hlt hfz hw
    rw [Try.params4] at hA hval hw
    obtain ⟨v0, d0, hv, rfl, h0⟩ := trodAll_one hA
    subst hv
    obtain ⟨L, hL, hLo⟩ := asks_came (hval 0 _ v0 rfl rfl) h0 (weights_one hw)
    exact keeps_walk v0 L W hL hLo

set_option maxRecDepth 100000 in
theorem senderKeeps_holds : Rows.SenderKeepsSaid :=
  OpenClaim.holds_of_wide 4 Try.f4 rfl rfl rfl rfl rfl rfl rfl ⟨rfl, rfl, rfl, rfl, rfl⟩ rfl rfl rfl rfl rfl (by kernel_rfl) Try.func4 (by kernel_rfl)
    (of_decide_eq_true (by kernel_rfl)) (by unfold Func.isWrapper; first | (rw [if_pos (by decide +kernel)]; kernel_rfl) | (rw [if_neg (by decide +kernel)]; exact ⟨rfl, rfl⟩))
    (fun os started H enc _ => senderKeeps_lifted os started H enc)
#print axioms senderKeeps_holds
end Go.Proofs.Ytncfbaabhceeoaa
