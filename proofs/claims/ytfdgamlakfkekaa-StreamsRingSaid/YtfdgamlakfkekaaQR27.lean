/- The law StreamsRing of narthexlaw18 returns true for every input, and the arguments read afterwards as before. Conditions: none beyond the row's own. -/
import Derived.Carry
import Derived.Test.YtfdgamlakfkekaaQR1
import Derived.Test.YtfdgamlakfkekaaQR2
import Derived.Test.YtfdgamlakfkekaaQR3
import Derived.Test.YtfdgamlakfkekaaQR26
set_option linter.all false
namespace Go.Proofs.Ytfdgamlakfkekaa
open Go.ChangeShapes Go.WideShapes Go.ChangeAt Go.RowKit

theorem cells_u8 : Try.prog.cellsOf 5 = 1 := by kernel_rfl
set_option maxRecDepth 100000 in
theorem bytes_came {H : Type} {enc : TypeId × Value → H} {W : World} {base : Nat} {v : Value} {d : DataW H} {ps : List MemPlace}
    (hval : Value.okWide Try.prog W .any base 36 v) (h : DataW.Trod enc Try.prog W 0 (fun _ => true) true 36 v d ps) (hw : (DataW.weights Try.prog 36 d).all (· ≤ reachBytes) = true) :
    ∃ L : List Nat, Vw encB W W.heap.size v L ∧ ∀ x ∈ L, x < 256 := by
  obtain ⟨oa, len, cap, L, rfl, h1, h2, h3, h4, h5⟩ := vw_came Try.underlying36 (by rw [cells_u8]; omega) hval h hw encB (fun n => n < 256) 0 (fun a => by rw [cells_u8]; rfl) (fun cs d hc hr => byte_el Try.underlying5 cells_u8 cs d hc hr)
  exact ⟨L, h4, h5⟩

set_option maxRecDepth 100000 in
theorem streamsRing_lifted (os : Os) (started : os.Started) (H : Type) (enc : TypeId × Value → H) :
    ReturnsInHanded {} Try.checked os 5 .any (Rows.streamsRingSpec.pre6 enc Try.prog Try.f5 [] false)
      (Rows.streamsRingSpec.post enc Try.prog Try.f5 false true false false) := by
  refine law_frame started enc Try.func5 (by kernel_rfl) rfl ?_ (by kernel_rfl) (by kernel_rfl) ?_
    (ChangeSpec.witness6 (enc := enc) (C := Try.checked) false ⟨#[], #[.int .i64 0, .slice none 0 0], []⟩ 8 (by kernel_rfl) (by kernel_rfl) (by kernel_rfl) (by kernel_rfl)) ?_
  · intro ds hl
    rw [Try.params5] at hl
    match ds, hl with
    | [d1, d2], _ => rfl
  · rw [Try.params5]
    intro t ht
    simp only [List.mem_cons, List.not_mem_nil, or_false] at ht
    rcases ht with rfl | rfl
    all_goals exact ⟨by kernel_rfl, of_decide_eq_true (by kernel_rfl)⟩
  · intro W base args ds ps hval hA hlt hfz hw
    rw [Try.params5] at hA hval hw
    obtain ⟨v0, v1, d0, d1, p0, p1, hv, rfl, _, h0, h1⟩ := trodAll_two hA
    subst hv
    obtain ⟨w0, w1⟩ := weights_two hw
    obtain ⟨n, rfl, hn⟩ := int_came Try.underlying3 (hval 0 _ v0 rfl rfl) h0
    obtain ⟨n1, n2⟩ := i64_bd hn
    obtain ⟨L, hL, hb⟩ := bytes_came (hval 1 _ v1 rfl rfl) h1 w1
    exact ring_walk n v1 L W n1 n2 hL hb

set_option maxRecDepth 100000 in
theorem streamsRing_holds : Rows.StreamsRingSaid :=
  OpenClaim.holds_of_wide 5 Try.f5 rfl rfl rfl rfl rfl rfl rfl ⟨rfl, rfl, rfl, rfl, rfl⟩ rfl rfl rfl rfl rfl (by kernel_rfl) Try.func5 (by kernel_rfl)
    (of_decide_eq_true (by kernel_rfl)) (by unfold Func.isWrapper; first | (rw [if_pos (by decide +kernel)]; kernel_rfl) | (rw [if_neg (by decide +kernel)]; exact ⟨rfl, rfl⟩))
    (fun os started H enc _ => streamsRing_lifted os started H enc)
#print axioms streamsRing_holds
end Go.Proofs.Ytfdgamlakfkekaa
