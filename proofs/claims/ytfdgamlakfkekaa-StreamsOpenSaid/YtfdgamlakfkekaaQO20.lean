/- The law StreamsOpen of narthexlaw18 returns true for every input, and the arguments read afterwards as before. Conditions: none beyond the row's own. -/
import Derived.Test.YtfdgamlakfkekaaQO1
import Derived.Test.YtfdgamlakfkekaaQO2
import Derived.Test.YtfdgamlakfkekaaQO19
set_option linter.all false
namespace Go.Proofs.Ytfdgamlakfkekaa
open Go.ChangeShapes Go.WideShapes Go.ChangeAt Go.RowKit


set_option maxRecDepth 100000 in
theorem streamsOpen_lifted (os : Os) (started : os.Started) (H : Type) (enc : TypeId × Value → H) :
    ReturnsInHanded {} Try.checked os 3 .any (Rows.streamsOpenSpec.pre6 enc Try.prog Try.f3 [] false)
      (Rows.streamsOpenSpec.post enc Try.prog Try.f3 false true false false) := by
  refine law_frame started enc Try.func3 (by kernel_rfl) rfl ?_ (by kernel_rfl) (by kernel_rfl) ?_
    (ChangeSpec.witness6 (enc := enc) (C := Try.checked) false ⟨#[], #[.bool false, .int .i64 0, .int .i64 0], []⟩ 8 (by kernel_rfl) (by kernel_rfl) (by kernel_rfl) (by kernel_rfl)) ?_
  · intro ds hl
    rw [Try.params3] at hl
    match ds, hl with
    | [d1, d2, d3], _ => rfl
  · rw [Try.params3]
    intro t ht
    simp only [List.mem_cons, List.not_mem_nil, or_false] at ht
    rcases ht with rfl | rfl | rfl
    all_goals exact ⟨by kernel_rfl, of_decide_eq_true (by kernel_rfl)⟩
  · intro W base args ds ps hval hA hlt hfz hw
    rw [Try.params3] at hA hval hw
    obtain ⟨v0, v1, v2, d0, d1, d2, p0, p1, p2, hv, rfl, _, h0, h1, h2⟩ := trodAll_three hA
    subst hv
    obtain ⟨z, rfl⟩ := okWide_bool Try.underlying4 (hval 0 _ v0 rfl rfl)
    obtain ⟨n, rfl, hn⟩ := int_came Try.underlying3 (hval 1 _ v1 rfl rfl) h1
    obtain ⟨m, rfl, hm⟩ := int_came Try.underlying3 (hval 2 _ v2 rfl rfl) h2
    obtain ⟨n1, n2⟩ := i64_bd hn
    obtain ⟨m1, m2⟩ := i64_bd hm
    exact stopen_walk z n m W n1 n2 m1 m2

set_option maxRecDepth 100000 in
theorem streamsOpen_holds : Rows.StreamsOpenSaid :=
  OpenClaim.holds_of_wide 3 Try.f3 rfl rfl rfl rfl rfl rfl rfl ⟨rfl, rfl, rfl, rfl, rfl⟩ rfl rfl rfl rfl rfl (by kernel_rfl) Try.func3 (by kernel_rfl)
    (of_decide_eq_true (by kernel_rfl)) (by unfold Func.isWrapper; first | (rw [if_pos (by decide +kernel)]; kernel_rfl) | (rw [if_neg (by decide +kernel)]; exact ⟨rfl, rfl⟩))
    (fun os started H enc _ => streamsOpen_lifted os started H enc)
#print axioms streamsOpen_holds
end Go.Proofs.Ytfdgamlakfkekaa
