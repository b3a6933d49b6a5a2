/- The laws RangesSets, RangesGaps, RangesNumbers and RangesPlays of narthexlaw10 return true for every input, and the arguments read afterwards as before. Conditions: none beyond the rows' own. -/
import Derived.Test.YtcnpodmifichfaaCame2
import Derived.Test.YtcnpodmifichfaaRngSets
import Derived.Test.YtcnpodmifichfaaRngPlays
namespace Go.Proofs.Ytcnpodmifichfaa
open Go.ChangeShapes Go.WideShapes Go.ChangeAt Go.RowKit

theorem cells_int : Try.prog.cellsOf 3 = 1 := by kernel_rfl
theorem cells_u64 : Try.prog.cellsOf 26 = 1 := by kernel_rfl
theorem cells_ask : Try.prog.cellsOf 28 = 3 := by kernel_rfl
theorem bytes_ask : Try.prog.bytesOf 28 = 24 := by kernel_rfl
theorem len3 {l : List Value} (h : l.length = 3) : ∃ a b c, l = [a, b, c] := by
  match l, h with
  | [a, b, c], _ => exact ⟨a, b, c, rfl⟩
/-- The argument of these laws: a row of Asks. -/
theorem asks_came {H : Type} {enc : TypeId × Value → H} {W : World} {base : Nat} {v : Value} {d : DataW H} {ps : List MemPlace}
    (hval : Value.okWide Try.prog W .any base 22 v) (h : DataW.Trod enc Try.prog W 0 (fun _ => true) true 22 v d ps)
    (hw : (DataW.weights Try.prog 22 d).all (· ≤ reachBytes) = true) :
    ∃ oa cap, ∃ L : List Ak, v = .slice oa L.length cap ∧ L.length * 24 ≤ 140737488351232 ∧ Asks W W.heap.size oa L ∧ ∀ a ∈ L, AkOk a := by
  obtain ⟨oa, len, cap, rfl, hlen, hc⟩ := slice_came Try.underlying22 (by rw [cells_ask]; omega) hval h hw
  rw [bytes_ask] at hlen
  rw [cells_ask] at hc
  have hx : ∀ i, ∃ a : Ak, i < len → (∃ b off, oa = some ⟨b, off, none⟩ ∧ b < W.heap.size ∧ W.cell? ⟨b, off + i * 3, none⟩ = some (.int .i64 a.1) ∧ W.cell? ⟨b, off + i * 3 + 1, none⟩ = some (.int .u64 a.2.1) ∧ W.cell? ⟨b, off + i * 3 + 2, none⟩ = some (.int .u64 a.2.2)) ∧ AkOk a := by
    intro i
    by_cases hi : i < len
    · obtain ⟨b, off, cs, D, h1, h2, h3, h4, h5⟩ := hc i hi
      obtain ⟨c0, c1, c2, rfl⟩ := len3 h3
      obtain ⟨_, D', _, hf⟩ := h5.fields Try.underlying28
      obtain ⟨z0, e0, _, w0⟩ := (hf 0 _ rfl).int Try.underlying3
      obtain ⟨z1, e1, _, w1⟩ := (hf 1 _ rfl).int Try.underlying26
      obtain ⟨z2, e2, _, w2⟩ := (hf 2 _ rfl).int Try.underlying26
      simp [cells_int, cells_u64] at e0 e1 e2
      subst e0 e1 e2
      have b1 := u64_bd w1
      have b2 := u64_bd w2
      refine ⟨(z0, z1.toNat, z2.toNat), fun _ => ⟨⟨b, off, h1, h2, ?_, ?_, ?_⟩, i64_bd w0, ?_, ?_⟩⟩
      · have := h4 0 (by omega)
        simpa using this
      · have := h4 1 (by omega)
        rw [show ((z1.toNat : Nat) : Int) = z1 by omega]
        simpa using this
      · have := h4 2 (by omega)
        rw [show ((z2.toNat : Nat) : Int) = z2 by omega]
        simpa using this
      · simp only []; omega
      · simp only []; omega
    · exact ⟨(0, 0, 0), fun h => absurd h hi⟩
  obtain ⟨f, hf⟩ := Classical.axiomOfChoice hx
  refine ⟨oa, cap, (List.range len).map f, by simp, by simpa using hlen, ?_, ?_⟩
  · intro i a hi
    rw [List.getElem?_map] at hi
    rcases Nat.lt_or_ge i len with hl | hl
    · rw [List.getElem?_range hl] at hi
      simp at hi
      subst hi
      obtain ⟨⟨b, off, q⟩, q2⟩ := hf i hl
      exact ⟨b, off, q.1, q.2.1, q.2.2.1, q.2.2.2.1, q.2.2.2.2, q2⟩
    · rw [List.getElem?_eq_none (by simpa using hl)] at hi
      simp at hi
  · intro a ha
    obtain ⟨i, hi, rfl⟩ := List.mem_map.1 ha
    exact (hf i (List.mem_range.1 hi)).2

theorem rangesSets_lifted (os : Os) (started : os.Started) (H : Type) (enc : TypeId × Value → H) :
    ReturnsInHanded {} Try.checked os 3 .any (Rows.rangesSetsSpec.pre6 enc Try.prog Try.f3 [] false)
      (Rows.rangesSetsSpec.post enc Try.prog Try.f3 false true false false) := by
  refine law_frame started enc Try.func3 (by kernel_rfl) rfl ?_ (by kernel_rfl) (by kernel_rfl) ?_
    (ChangeSpec.witness6 (enc := enc) (C := Try.checked) false ⟨#[], #[.slice none 0 0], []⟩ 8 (by kernel_rfl) (by kernel_rfl) (by kernel_rfl) (by kernel_rfl)) ?_
  · intro ds hl
    rw [Try.params3] at hl
    match ds, hl with
    | [d1], _ => rfl
  · rw [Try.params3]
    intro t ht
    simp only [List.mem_cons, List.not_mem_nil, or_false] at ht
    rcases ht with rfl
    all_goals exact ⟨by kernel_rfl, of_decide_eq_true (by kernel_rfl)⟩
  · intro W base args ds ps hval hA hlt hfz hw
    rw [Try.params3] at hA hval hw
    obtain ⟨v0, d0, hv, rfl, h0⟩ := trodAll_one hA
    subst hv
    obtain ⟨oa, cap, L, rfl, hlen, ha, hL⟩ := asks_came (hval 0 _ v0 rfl rfl) h0 (weights_one hw)
    exact sets_walk oa cap L L.length W rfl (by omega) ha

theorem rangesSets_holds : Rows.RangesSetsSaid :=
  OpenClaim.holds_of_wide 3 Try.f3 rfl rfl rfl rfl rfl rfl rfl ⟨rfl, rfl, rfl, rfl, rfl⟩ rfl rfl rfl rfl rfl (by kernel_rfl) Try.func3 (by kernel_rfl)
    (of_decide_eq_true (by kernel_rfl)) (by unfold Func.isWrapper; first | (rw [if_pos (by decide +kernel)]; kernel_rfl) | (rw [if_neg (by decide +kernel)]; exact ⟨rfl, rfl⟩))
    (fun os started H enc _ => rangesSets_lifted os started H enc)
#print axioms rangesSets_holds

theorem rangesGaps_lifted (os : Os) (started : os.Started) (H : Type) (enc : TypeId × Value → H) :
    ReturnsInHanded {} Try.checked os 4 .any (Rows.rangesGapsSpec.pre6 enc Try.prog Try.f4 [] false)
      (Rows.rangesGapsSpec.post enc Try.prog Try.f4 false true false false) := by
  refine law_frame started enc Try.func4 (by kernel_rfl) rfl ?_ (by kernel_rfl) (by kernel_rfl) ?_
    (ChangeSpec.witness6 (enc := enc) (C := Try.checked) false ⟨#[], #[.slice none 0 0], []⟩ 8 (by kernel_rfl) (by kernel_rfl) (by kernel_rfl) (by kernel_rfl)) ?_
  · intro ds hl
    rw [Try.params4] at hl
    match ds, hl with
    | [d1], _ => rfl
  · rw [Try.params4]
    intro t ht
    simp only [List.mem_cons, List.not_mem_nil, or_false] at ht
    rcases ht with rfl
    all_goals exact ⟨by kernel_rfl, of_decide_eq_true (by kernel_rfl)⟩
  · intro W base args ds ps hval hA hlt hfz hw
    rw [Try.params4] at hA hval hw
    obtain ⟨v0, d0, hv, rfl, h0⟩ := trodAll_one hA
    subst hv
    obtain ⟨oa, cap, L, rfl, hlen, ha, hL⟩ := asks_came (hval 0 _ v0 rfl rfl) h0 (weights_one hw)
    exact gaps_walk oa cap L L.length W rfl (by omega) ha

theorem rangesGaps_holds : Rows.RangesGapsSaid :=
  OpenClaim.holds_of_wide 4 Try.f4 rfl rfl rfl rfl rfl rfl rfl ⟨rfl, rfl, rfl, rfl, rfl⟩ rfl rfl rfl rfl rfl (by kernel_rfl) Try.func4 (by kernel_rfl)
    (of_decide_eq_true (by kernel_rfl)) (by unfold Func.isWrapper; first | (rw [if_pos (by decide +kernel)]; kernel_rfl) | (rw [if_neg (by decide +kernel)]; exact ⟨rfl, rfl⟩))
    (fun os started H enc _ => rangesGaps_lifted os started H enc)
#print axioms rangesGaps_holds

theorem rangesNumbers_lifted (os : Os) (started : os.Started) (H : Type) (enc : TypeId × Value → H) :
    ReturnsInHanded {} Try.checked os 5 .any (Rows.rangesNumbersSpec.pre6 enc Try.prog Try.f5 [] false)
      (Rows.rangesNumbersSpec.post enc Try.prog Try.f5 false true false false) := by
  refine law_frame started enc Try.func5 (by kernel_rfl) rfl ?_ (by kernel_rfl) (by kernel_rfl) ?_
    (ChangeSpec.witness6 (enc := enc) (C := Try.checked) false ⟨#[], #[], []⟩ 8 (by kernel_rfl) (by kernel_rfl) (by kernel_rfl) (by kernel_rfl)) ?_
  · intro ds hl
    rw [Try.params5] at hl
    match ds, hl with
    | [], _ => rfl
  · rw [Try.params5]
    intro t ht
    cases ht
  · intro W base args ds ps hval hA hlt hfz hw
    rw [Try.params5] at hA hval hw
    obtain ⟨rfl, rfl, rfl⟩ := trodAll_none hA
    exact numbers_walk W

theorem rangesNumbers_holds : Rows.RangesNumbersSaid :=
  OpenClaim.holds_of_wide 5 Try.f5 rfl rfl rfl rfl rfl rfl rfl ⟨rfl, rfl, rfl, rfl, rfl⟩ rfl rfl rfl rfl rfl (by kernel_rfl) Try.func5 (by kernel_rfl)
    (of_decide_eq_true (by kernel_rfl)) (by unfold Func.isWrapper; first | (rw [if_pos (by decide +kernel)]; kernel_rfl) | (rw [if_neg (by decide +kernel)]; exact ⟨rfl, rfl⟩))
    (fun os started H enc _ => rangesNumbers_lifted os started H enc)
#print axioms rangesNumbers_holds

theorem rangesPlays_lifted (os : Os) (started : os.Started) (H : Type) (enc : TypeId × Value → H) :
    ReturnsInHanded {} Try.checked os 6 .any (Rows.rangesPlaysSpec.pre6 enc Try.prog Try.f6 [] false)
      (Rows.rangesPlaysSpec.post enc Try.prog Try.f6 false true false false) := by
  refine law_frame started enc Try.func6 (by kernel_rfl) rfl ?_ (by kernel_rfl) (by kernel_rfl) ?_
    (ChangeSpec.witness6 (enc := enc) (C := Try.checked) false ⟨#[], #[.int .i64 0, .slice none 0 0, .int .u64 0], []⟩ 8 (by kernel_rfl) (by kernel_rfl) (by kernel_rfl) (by kernel_rfl)) ?_
  · intro ds hl
    rw [Try.params6] at hl
    match ds, hl with
    | [d1, d2, d3], _ => rfl
  · rw [Try.params6]
    intro t ht
    simp only [List.mem_cons, List.not_mem_nil, or_false] at ht
    rcases ht with rfl | rfl | rfl
    all_goals exact ⟨by kernel_rfl, of_decide_eq_true (by kernel_rfl)⟩
  · intro W base args ds ps hval hA hlt hfz hw
    rw [Try.params6] at hA hval hw
    obtain ⟨v0, v1, v2, d0, d1, d2, p0, p1, p2, hv, rfl, _, h0, h1, h2⟩ := trodAll_three hA
    subst hv
    obtain ⟨w0, w1, w2⟩ := weights_three hw
    obtain ⟨m, rfl, hm⟩ := int_came Try.underlying3 (hval 0 _ v0 rfl rfl) h0
    obtain ⟨oa, cap, L, rfl, hlen, ha, hL⟩ := asks_came (hval 1 _ v1 rfl rfl) h1 w1
    obtain ⟨z, rfl, hz⟩ := int_came Try.underlying26 (hval 2 _ v2 rfl rfl) h2
    have b0 := i64_bd hm
    have b2 := u64_bd hz
    have e : z = ((z.toNat : Nat) : Int) := by omega
    rw [e]
    exact plays_walk m oa cap L z.toNat W b0.2 b0.1 (by omega) hlen ha hL

theorem rangesPlays_holds : Rows.RangesPlaysSaid :=
  OpenClaim.holds_of_wide 6 Try.f6 rfl rfl rfl rfl rfl rfl rfl ⟨rfl, rfl, rfl, rfl, rfl⟩ rfl rfl rfl rfl rfl (by kernel_rfl) Try.func6 (by kernel_rfl)
    (of_decide_eq_true (by kernel_rfl)) (by unfold Func.isWrapper; first | (rw [if_pos (by decide +kernel)]; kernel_rfl) | (rw [if_neg (by decide +kernel)]; exact ⟨rfl, rfl⟩))
    (fun os started H enc _ => rangesPlays_lifted os started H enc)
#print axioms rangesPlays_holds
end Go.Proofs.Ytcnpodmifichfaa
