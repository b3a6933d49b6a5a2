/- The laws CongBounds and CongTells of narthexlaw13 return true for every input, and the argument reads afterwards as before. Conditions: none beyond the row's own. -/
import Derived.Test.YtefanlmknoepdaaCame
import Derived.Test.YtefanlmknoepdaaCongBounds
import Derived.Test.YtefanlmknoepdaaCongTells
namespace Go.Proofs.Ytefanlmknoepdaa
open Go.ChangeShapes Go.WideShapes Go.ChangeAt Go.RowKit

theorem cells_int : Try.prog.cellsOf 3 = 1 := by kernel_rfl
theorem cells_int64 : Try.prog.cellsOf 2 = 1 := by kernel_rfl
theorem cells_ask : Try.prog.cellsOf 33 = 4 := by kernel_rfl
theorem bytes_ask : Try.prog.bytesOf 33 = 32 := by kernel_rfl

theorem len4 {l : List Value} (h : l.length = 4) : ∃ a b c d, l = [a, b, c, d] := by
  match l, h with
  | [a, b, c, d], _ => exact ⟨a, b, c, d, rfl⟩

/-- The argument of these laws: a row of Asks. -/
theorem asks_came {H : Type} {enc : TypeId × Value → H} {W : World} {base : Nat} {v : Value} {d : DataW H} {ps : List MemPlace}
    (hval : Value.okWide Try.prog W .any base 31 v) (h : DataW.Trod enc Try.prog W 0 (fun _ => true) true 31 v d ps)
    (hw : (DataW.weightsEach Try.prog [31] [d]).all (· ≤ reachBytes) = true) :
    ∃ oa len cap f, v = .slice oa len cap ∧ len * 32 ≤ 140737488351232 ∧ Asks W W.heap.size oa len f := by
  obtain ⟨oa, len, cap, rfl⟩ := okWide_slice Try.underlying31 hval
  obtain ⟨oa', len', cap', D, spl, hcs, ⟨hl, hm, hc⟩, hd⟩ := (Reads.of h).slice Try.underlying31 (by rw [cells_ask]; omega)
  simp only [Value.cells, List.cons.injEq, Value.slice.injEq, and_true] at hcs
  obtain ⟨rfl, rfl, rfl⟩ := hcs
  have hlen : len * 32 ≤ 140737488351232 := by
    rcases hd with ⟨_, h0, _⟩ | ⟨rfl, _⟩
    · subst h0; omega
    · simp only [DataW.weightsEach, DataW.weights, Try.underlying31, List.cons_append, List.all_cons, Bool.and_eq_true, decide_eq_true_eq, bytes_ask, List.length_map, List.length_range, reachBytes] at hw
      have hw1 := of_decide_eq_true hw.1
      omega
  have hx : ∀ i, ∃ g : Nat → Int, i < len → ∃ b off, oa = some ⟨b, off, none⟩ ∧ b < W.heap.size ∧ (∀ j, j < 4 → W.cell? ⟨b, off + i * 4 + j, none⟩ = some (.int .i64 (g j))) ∧ ∀ j, j < 4 → I64 (g j) := by
    intro i
    by_cases hi : i < len
    · obtain ⟨b, off, cs, h1, h2, h3, h4, h5⟩ := hc i hi
      rw [cells_ask] at h3 h4
      obtain ⟨c0, c1, c2, c3, rfl⟩ := len4 h3
      obtain ⟨_, D', _, hf⟩ := h5.fields Try.underlying33
      obtain ⟨z0, e0, _, w0⟩ := (hf 0 _ rfl).int Try.underlying3
      obtain ⟨z1, e1, _, w1⟩ := (hf 1 _ rfl).int Try.underlying3
      obtain ⟨z2, e2, _, w2⟩ := (hf 2 _ rfl).int Try.underlying2
      obtain ⟨z3, e3, _, w3⟩ := (hf 3 _ rfl).int Try.underlying2
      simp [cells_int, cells_int64] at e0 e1 e2 e3
      subst e0 e1 e2 e3
      refine ⟨fun j => match j with | 0 => z0 | 1 => z1 | 2 => z2 | _ => z3, fun _ => ⟨b, off, h1, h2, fun j hj => ?_, fun j hj => ?_⟩⟩
      · rw [h4 j hj]
        rcases (by omega : j = 0 ∨ j = 1 ∨ j = 2 ∨ j = 3) with rfl | rfl | rfl | rfl <;> rfl
      · rcases (by omega : j = 0 ∨ j = 1 ∨ j = 2 ∨ j = 3) with rfl | rfl | rfl | rfl
        · exact i64_bd w0
        · exact i64_bd w1
        · exact i64_bd w2
        · exact i64_bd w3
    · exact ⟨fun _ => 0, fun h => absurd h hi⟩
  obtain ⟨f, hf⟩ := Classical.axiomOfChoice hx
  exact ⟨oa, len, cap, f, rfl, hlen, hf⟩


theorem congBounds_lifted (os : Os) (started : os.Started) (H : Type) (enc : TypeId × Value → H) :
    ReturnsInHanded {} Try.checked os 6 .any (Rows.congBoundsSpec.pre6 enc Try.prog Try.f6 [] false)
      (Rows.congBoundsSpec.post enc Try.prog Try.f6 false true false false) := by
  refine law_frame started enc Try.func6 (by kernel_rfl) rfl ?_ (by kernel_rfl) (by kernel_rfl) ?_
    (ChangeSpec.witness6 (enc := enc) (C := Try.checked) false ⟨#[], #[.slice none 0 0], []⟩ 8 (by kernel_rfl) (by kernel_rfl) (by kernel_rfl) (by kernel_rfl)) ?_
  · intro ds hl
    rw [Try.params6] at hl
    match ds, hl with
    | [d1], _ => rfl
  · rw [Try.params6]
    intro t ht
    simp only [List.mem_cons, List.not_mem_nil, or_false] at ht
    rcases ht with rfl
    all_goals exact ⟨by kernel_rfl, of_decide_eq_true (by kernel_rfl)⟩
  · intro W base args ds ps hval hA hlt hfz hw
    rw [Try.params6] at hA hval hw
    obtain ⟨v0, d0, hv, rfl, h0⟩ := trodAll_one hA
    subst hv
    obtain ⟨oa, len, cap, f, rfl, hlen, ha⟩ := asks_came (hval 0 _ v0 rfl rfl) h0 hw
    exact bounds_walk oa len cap f W (by omega) ha

theorem congBounds_holds : Rows.CongBoundsSaid :=
  OpenClaim.holds_of_wide 6 Try.f6 rfl rfl rfl rfl rfl rfl rfl ⟨rfl, rfl, rfl, rfl, rfl⟩ rfl rfl rfl rfl rfl (by kernel_rfl) Try.func6 (by kernel_rfl)
    (of_decide_eq_true (by kernel_rfl)) (by unfold Func.isWrapper; first | (rw [if_pos (by decide +kernel)]; kernel_rfl) | (rw [if_neg (by decide +kernel)]; exact ⟨rfl, rfl⟩))
    (fun os started H enc _ => congBounds_lifted os started H enc)
#print axioms congBounds_holds

theorem congTells_lifted (os : Os) (started : os.Started) (H : Type) (enc : TypeId × Value → H) :
    ReturnsInHanded {} Try.checked os 5 .any (Rows.congTellsSpec.pre6 enc Try.prog Try.f5 [] false)
      (Rows.congTellsSpec.post enc Try.prog Try.f5 false true false false) := by
  refine law_frame started enc Try.func5 (by kernel_rfl) rfl ?_ (by kernel_rfl) (by kernel_rfl) ?_
    (ChangeSpec.witness6 (enc := enc) (C := Try.checked) false ⟨#[], #[.slice none 0 0], []⟩ 8 (by kernel_rfl) (by kernel_rfl) (by kernel_rfl) (by kernel_rfl)) ?_
  · intro ds hl
    rw [Try.params5] at hl
    match ds, hl with
    | [d1], _ => rfl
  · rw [Try.params5]
    intro t ht
    simp only [List.mem_cons, List.not_mem_nil, or_false] at ht
    rcases ht with rfl
    all_goals exact ⟨by kernel_rfl, of_decide_eq_true (by kernel_rfl)⟩
  · intro W base args ds ps hval hA hlt hfz hw
    rw [Try.params5] at hA hval hw
    obtain ⟨v0, d0, hv, rfl, h0⟩ := trodAll_one hA
    subst hv
    obtain ⟨oa, len, cap, f, rfl, hlen, ha⟩ := asks_came (hval 0 _ v0 rfl rfl) h0 hw
    exact tells_walk oa len cap f W hlen ha

theorem congTells_holds : Rows.CongTellsSaid :=
  OpenClaim.holds_of_wide 5 Try.f5 rfl rfl rfl rfl rfl rfl rfl ⟨rfl, rfl, rfl, rfl, rfl⟩ rfl rfl rfl rfl rfl (by kernel_rfl) Try.func5 (by kernel_rfl)
    (of_decide_eq_true (by kernel_rfl)) (by unfold Func.isWrapper; first | (rw [if_pos (by decide +kernel)]; kernel_rfl) | (rw [if_neg (by decide +kernel)]; exact ⟨rfl, rfl⟩))
    (fun os started H enc _ => congTells_lifted os started H enc)
#print axioms congTells_holds
end Go.Proofs.Ytefanlmknoepdaa
