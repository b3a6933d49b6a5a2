/- The law StreamsHeld of narthexlaw18 returns true for every input, and the arguments read afterwards as before. Conditions: none beyond the row's own. -/
import Derived.Carry
import Derived.Test.YtnneoeimgbemfaaGreatQH1
import Derived.Test.YtnneoeimgbemfaaGreatQH2
import Derived.Test.YtnneoeimgbemfaaGreatQH3
import Derived.Test.YtnneoeimgbemfaaGreatQH29
set_option linter.all false
namespace Go.Proofs.YtnneoeimgbemfaaGreat
open Go.ChangeShapes Go.WideShapes Go.ChangeAt Go.RowKit

theorem cells_u8 : Tryz.prog.cellsOf 5 = 1 := by kernel_rfl
theorem cells_int : Tryz.prog.cellsOf 3 = 1 := by kernel_rfl
theorem cells_bs : Tryz.prog.cellsOf 31 = 1 := by kernel_rfl
set_option maxRecDepth 100000 in
theorem rows_came {H : Type} {enc : TypeId × Value → H} {W : World} {base : Nat} {v : Value} {d : DataW H} {ps : List MemPlace}
    (hval : Value.okWide Tryz.prog W .any base 22 v) (h : DataW.Trod enc Tryz.prog W 0 (fun _ => true) true 22 v d ps) (hw : (DataW.weights Tryz.prog 22 d).all (· ≤ reachBytes) = true) :
    ∃ L : List Value, Vw encW W W.heap.size v L ∧ ∀ x ∈ L, ∃ D, Vw encB W W.heap.size x D ∧ Bys D := by
  obtain ⟨oa, len, cap, L, rfl, h1, h2, h3, h4, h5⟩ := vw_came Tryz.underlying22 (by rw [cells_bs]; omega) hval h hw encW (fun x => ∃ D, Vw encB W W.heap.size x D ∧ Bys D) (.slice none 0 0) (fun a => by rw [cells_bs]; rfl) (fun cs d hc hr => by
    obtain ⟨v7, L7, e7, hv7, hb7⟩ := bytes_read Tryz.underlying31 Tryz.underlying5 cells_u8 hr
    exact ⟨v7, e7, L7, hv7, hb7⟩)
  exact ⟨L, h4, h5⟩
set_option maxRecDepth 100000 in
theorem int_el {H : Type} {enc : TypeId × Value → H} {W : World} (cs : List Value) (d : DataW H) (_ : cs.length = Tryz.prog.cellsOf 3) (h : Reads enc Tryz.prog W (fun _ => true) true 3 cs d) : ∃ a : Int, cs = encN a ∧ (-9223372036854775808 ≤ a ∧ a ≤ 9223372036854775807) := by
  obtain ⟨n, rfl, _, h2⟩ := h.int Tryz.underlying3
  exact ⟨n, rfl, i64_bd h2⟩
set_option maxRecDepth 100000 in
theorem ints_came {H : Type} {enc : TypeId × Value → H} {W : World} {base : Nat} {v : Value} {d : DataW H} {ps : List MemPlace}
    (hval : Value.okWide Tryz.prog W .any base 23 v) (h : DataW.Trod enc Tryz.prog W 0 (fun _ => true) true 23 v d ps) (hw : (DataW.weights Tryz.prog 23 d).all (· ≤ reachBytes) = true) :
    ∃ L : List Int, Vw encN W W.heap.size v L ∧ ∀ a ∈ L, -9223372036854775808 ≤ a ∧ a ≤ 9223372036854775807 := by
  obtain ⟨oa, len, cap, L, rfl, h1, h2, h3, h4, h5⟩ := vw_came Tryz.underlying23 (by rw [cells_int]; omega) hval h hw encN (fun a => -9223372036854775808 ≤ a ∧ a ≤ 9223372036854775807) 0 (fun a => by rw [cells_int]; rfl) int_el
  exact ⟨L, h4, h5⟩

set_option maxRecDepth 100000 in
theorem streamsHeld_lifted (os : Os) (started : os.Started) (H : Type) (enc : TypeId × Value → H) :
    ReturnsInHanded {} Tryz.checked os 3 .any (Rows.streamsHeldSpec.pre6 enc Tryz.prog Tryz.f3 [] false)
      (Rows.streamsHeldSpec.post enc Tryz.prog Tryz.f3 false true false false) := by
  refine law_frame started enc Tryz.func3 (by kernel_rfl) rfl ?_ (by kernel_rfl) (by kernel_rfl) ?_
    (ChangeSpec.witness6 (enc := enc) (C := Tryz.checked) false ⟨#[], #[.slice none 0 0, .slice none 0 0], []⟩ 8 (by kernel_rfl) (by kernel_rfl) (by kernel_rfl) (by kernel_rfl)) ?_
  · intro ds hl
    rw [Tryz.params3] at hl
    match ds, hl with
    | [d1, d2], _ => rfl
  · rw [Tryz.params3]
    intro t ht
    simp only [List.mem_cons, List.not_mem_nil, or_false] at ht
    rcases ht with rfl | rfl
    all_goals exact ⟨by kernel_rfl, of_decide_eq_true (by kernel_rfl)⟩
  · intro W base args ds ps hval hA hlt hfz hw
    rw [Tryz.params3] at hA hval hw
    obtain ⟨v0, v1, d0, d1, p0, p1, hv, rfl, _, h0, h1⟩ := trodAll_two hA
    subst hv
    obtain ⟨w0, w1⟩ := weights_two hw
    obtain ⟨LL, hL, hLo⟩ := rows_came (hval 0 _ v0 rfl rfl) h0 w0
    obtain ⟨R, hR, hRo⟩ := ints_came (hval 1 _ v1 rfl rfl) h1 w1
    exact held_walk v0 v1 LL R W hL hLo hR hRo

set_option maxRecDepth 100000 in
theorem streamsHeld_holds : Rows.StreamsHeldSaid :=
  OpenClaim.holds_of_wide 3 Tryz.f3 rfl rfl rfl rfl rfl rfl rfl ⟨rfl, rfl, rfl, rfl, rfl⟩ rfl rfl rfl rfl rfl (by kernel_rfl) Tryz.func3 (by kernel_rfl)
    (of_decide_eq_true (by kernel_rfl)) (by unfold Func.isWrapper; first | (rw [if_pos (by decide +kernel)]; kernel_rfl) | (rw [if_neg (by decide +kernel)]; exact ⟨rfl, rfl⟩))
    (fun os started H enc _ => streamsHeld_lifted os started H enc)
#print axioms streamsHeld_holds
end Go.Proofs.YtnneoeimgbemfaaGreat
