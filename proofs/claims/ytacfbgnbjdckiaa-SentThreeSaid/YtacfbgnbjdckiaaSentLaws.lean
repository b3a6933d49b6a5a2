/- The law SentThree of narthexlaw11 returns true for every input, and the arguments read afterwards as before. Conditions: none beyond the row's own. -/
import Derived.Test.YtacfbgnbjdckiaaCame3
import Derived.Test.YtacfbgnbjdckiaaSentThree
namespace Go.Proofs.Ytacfbgnbjdckiaa
open Go.ChangeShapes Go.WideShapes Go.ChangeAt Go.RowKit

theorem sentThree_lifted (os : Os) (started : os.Started) (H : Type) (enc : TypeId × Value → H) :
    ReturnsInHanded {} Try.checked os 4 .any (Rows.sentThreeSpec.pre6 enc Try.prog Try.f4 [] false)
      (Rows.sentThreeSpec.post enc Try.prog Try.f4 false true false false) := by
  refine law_frame started enc Try.func4 (by kernel_rfl) rfl ?_ (by kernel_rfl) (by kernel_rfl) ?_
    (ChangeSpec.witness6 (enc := enc) (C := Try.checked) false ⟨#[], #[.int .i64 0, .int .i64 0], []⟩ 8 (by kernel_rfl) (by kernel_rfl) (by kernel_rfl) (by kernel_rfl)) ?_
  · intro ds hl
    rw [Try.params4] at hl
    match ds, hl with
    | [d1, d2], _ => rfl
  · rw [Try.params4]
    intro t ht
    simp only [List.mem_cons, List.not_mem_nil, or_false] at ht
    rcases ht with rfl | rfl
    all_goals exact ⟨by kernel_rfl, of_decide_eq_true (by kernel_rfl)⟩
  · intro W base args ds ps hval hA hlt hfz hw
    rw [Try.params4] at hA hval hw
    obtain ⟨v0, v1, d0, d1, p0, p1, hv, rfl, _, h0, h1⟩ := trodAll_two hA
    subst hv
    obtain ⟨n, rfl, hn⟩ := int_came Try.underlying3 (hval 0 _ v0 rfl rfl) h0
    obtain ⟨m, rfl, hm⟩ := int_came Try.underlying3 (hval 1 _ v1 rfl rfl) h1
    exact three_walk n m W (i64_bd hn) (i64_bd hm)

theorem sentThree_holds : Rows.SentThreeSaid :=
  OpenClaim.holds_of_wide 4 Try.f4 rfl rfl rfl rfl rfl rfl rfl ⟨rfl, rfl, rfl, rfl, rfl⟩ rfl rfl rfl rfl rfl (by kernel_rfl) Try.func4 (by kernel_rfl)
    (of_decide_eq_true (by kernel_rfl)) (by unfold Func.isWrapper; first | (rw [if_pos (by decide +kernel)]; kernel_rfl) | (rw [if_neg (by decide +kernel)]; exact ⟨rfl, rfl⟩))
    (fun os started H enc _ => sentThree_lifted os started H enc)
#print axioms sentThree_holds
end Go.Proofs.Ytacfbgnbjdckiaa
