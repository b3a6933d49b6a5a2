/- The law CongGrows of narthexlaw13 returns true for every input, and each argument reads afterwards as before. Conditions: none beyond the row's own. -/
import Derived.Test.YtefanlmknoepdaaCame
import Derived.Test.YtefanlmknoepdaaCongGrows
namespace Go.Proofs.Ytefanlmknoepdaa
open Go.ChangeShapes Go.WideShapes Go.ChangeAt Go.RowKit

theorem cells_int : Try.prog.cellsOf 3 = 1 := by kernel_rfl

theorem congGrows_lifted (os : Os) (started : os.Started) (H : Type) (enc : TypeId × Value → H) :
    ReturnsInHanded {} Try.checked os 3 .any (Rows.congGrowsSpec.pre6 enc Try.prog Try.f3 [] false)
      (Rows.congGrowsSpec.post enc Try.prog Try.f3 false true false false) := by
  refine law_frame started enc Try.func3 (by kernel_rfl) rfl ?_ (by kernel_rfl) (by kernel_rfl) ?_
    (ChangeSpec.witness6 (enc := enc) (C := Try.checked) false ⟨#[], #[.slice none 0 0, .int .i64 0], []⟩ 8 (by kernel_rfl) (by kernel_rfl) (by kernel_rfl) (by kernel_rfl)) ?_
  · intro ds hl
    rw [Try.params3] at hl
    match ds, hl with
    | [d1, d2], _ => rfl
  · rw [Try.params3]
    intro t ht
    simp only [List.mem_cons, List.not_mem_nil, or_false] at ht
    rcases ht with rfl | rfl
    all_goals exact ⟨by kernel_rfl, of_decide_eq_true (by kernel_rfl)⟩
  · intro W base args ds ps hval hA hlt hfz hw
    rw [Try.params3] at hA hval
    obtain ⟨v0, v1, d0, d1, p0, p1, hv, rfl, rfl, h0, h1⟩ := trodAll_two hA
    subst hv
    obtain ⟨oa, len, cap, rfl⟩ := okWide_slice Try.underlying22 (hval 0 _ v0 rfl rfl)
    obtain ⟨n, rfl, rfl, rfl, hn⟩ := open_int Try.underlying3 (hval 1 _ v1 rfl rfl) h1
    obtain ⟨hn1, hn2⟩ := i64_bd hn
    obtain ⟨oa', len', cap', D, spl, hcs, ⟨hl, hm, hc⟩, _⟩ := (Reads.of h0).slice Try.underlying22 (by rw [cells_int]; omega)
    simp only [Value.cells, List.cons.injEq, Value.slice.injEq, and_true] at hcs
    obtain ⟨rfl, rfl, rfl⟩ := hcs
    have hx : ∀ i, ∃ z : Int, i < len → ∃ b off, oa = some ⟨b, off, none⟩ ∧ b < W.heap.size ∧ W.cell? ⟨b, off + i, none⟩ = some (.int .i64 z) ∧ -9223372036854775808 ≤ z ∧ z ≤ 9223372036854775807 := by
      intro i
      by_cases hi : i < len
      · obtain ⟨b, off, cs, h1, h2, h3, h4, h5⟩ := hc i hi
        obtain ⟨z, rfl, _, hz⟩ := h5.int Try.underlying3
        have h6 := h4 0 (by rw [cells_int]; omega)
        rw [cells_int] at h6
        exact ⟨z, fun _ => ⟨b, off, h1, h2, by simpa using h6, i64_bd hz⟩⟩
      · exact ⟨0, fun h => absurd h hi⟩
    obtain ⟨f, hf⟩ := Classical.axiomOfChoice hx
    exact grows_walk oa len cap n f W (by unfold maxLen at hm; omega) hf hn1 hn2

theorem congGrows_holds : Rows.CongGrowsSaid :=
  OpenClaim.holds_of_wide 3 Try.f3 rfl rfl rfl rfl rfl rfl rfl ⟨rfl, rfl, rfl, rfl, rfl⟩ rfl rfl rfl rfl rfl (by kernel_rfl) Try.func3 (by kernel_rfl)
    (of_decide_eq_true (by kernel_rfl)) (by unfold Func.isWrapper; first | (rw [if_pos (by decide +kernel)]; kernel_rfl) | (rw [if_neg (by decide +kernel)]; exact ⟨rfl, rfl⟩))
    (fun os started H enc _ => congGrows_lifted os started H enc)
#print axioms congGrows_holds
end Go.Proofs.Ytefanlmknoepdaa
