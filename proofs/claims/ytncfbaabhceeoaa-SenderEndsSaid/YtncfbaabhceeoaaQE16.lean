/- The law SenderEnds of narthexlaw16 returns true for every input, and the arguments read afterwards as before. Conditions: none beyond the row's own. -/
import Derived.Test.YtncfbaabhceeoaaQE3
import Derived.Test.YtncfbaabhceeoaaQE15
set_option linter.all false
namespace Go.Proofs.Ytncfbaabhceeoaa
open Go.ChangeShapes Go.WideShapes Go.ChangeAt Go.RowKit

theorem cells_u8 : Try.prog.cellsOf 5 = 1 := by kernel_rfl
theorem cells_bool : Try.prog.cellsOf 4 = 1 := by kernel_rfl
set_option maxRecDepth 100000 in
theorem bytes_came {H : Type} {enc : TypeId × Value → H} {W : World} {base : Nat} {v : Value} {d : DataW H} {ps : List MemPlace}
    (hval : Value.okWide Try.prog W .any base 36 v) (h : DataW.Trod enc Try.prog W 0 (fun _ => true) true 36 v d ps) (hw : (DataW.weights Try.prog 36 d).all (· ≤ reachBytes) = true) :
    ∃ L : List Nat, Vw encB W W.heap.size v L ∧ Bys L := by
  obtain ⟨oa, len, cap, L, rfl, h1, h2, h3, h4, h5⟩ := vw_came Try.underlying36 (by rw [cells_u8]; omega) hval h hw encB (· < 256) 0 (fun a => by rw [encB_len, cells_u8]) (byte_el Try.underlying5 cells_u8)
  exact ⟨L, h4, h5⟩
theorem bool_el {H : Type} {enc : TypeId × Value → H} {W : World} (cs : List Value) (d : DataW H) (_ : cs.length = Try.prog.cellsOf 4) (h : Reads enc Try.prog W (fun _ => true) true 4 cs d) : ∃ a : Bool, cs = encL a ∧ True := by
  obtain ⟨n, rfl, _⟩ := h.bool Try.underlying4
  exact ⟨n, rfl, trivial⟩
set_option maxRecDepth 100000 in
theorem bools_came {H : Type} {enc : TypeId × Value → H} {W : World} {base : Nat} {v : Value} {d : DataW H} {ps : List MemPlace}
    (hval : Value.okWide Try.prog W .any base 63 v) (h : DataW.Trod enc Try.prog W 0 (fun _ => true) true 63 v d ps) (hw : (DataW.weights Try.prog 63 d).all (· ≤ reachBytes) = true) :
    ∃ L : List Bool, Vw encL W W.heap.size v L := by
  obtain ⟨oa, len, cap, L, rfl, h1, h2, h3, h4, h5⟩ := vw_came Try.underlying63 (by rw [cells_bool]; omega) hval h hw encL (fun _ => True) false (fun a => by rw [cells_bool]; rfl) bool_el
  exact ⟨L, h4⟩

set_option maxRecDepth 100000 in
theorem senderEnds_lifted (os : Os) (started : os.Started) (H : Type) (enc : TypeId × Value → H) :
    ReturnsInHanded {} Try.checked os 5 .any (Rows.senderEndsSpec.pre6 enc Try.prog Try.f5 [] false)
      (Rows.senderEndsSpec.post enc Try.prog Try.f5 false true false false) := by
  refine law_frame started enc Try.func5 (by kernel_rfl) rfl ?_ (by kernel_rfl) (by kernel_rfl) ?_
    (ChangeSpec.witness6 (enc := enc) (C := Try.checked) false ⟨#[], #[.slice none 0 0, .slice none 0 0, .bool false], []⟩ 8 (by kernel_rfl) (by kernel_rfl) (by kernel_rfl) (by kernel_rfl)) ?_
  · intro ds hl
    rw [Try.params5] at hl
    match ds, hl with
    | [d1, d2, d3], _ => rfl
  · rw [Try.params5]
    intro t ht
    simp only [List.mem_cons, List.not_mem_nil, or_false] at ht
    rcases ht with rfl | rfl | rfl
    all_goals exact ⟨by kernel_rfl, of_decide_eq_true (by kernel_rfl)⟩
  · intro W base args ds ps hval hA hlt hfz hw
    rw [Try.params5] at hA hval hw
    obtain ⟨v0, v1, v2, d0, d1, d2, p0, p1, p2, hv, rfl, _, h0, h1, h2⟩ := trodAll_three hA
    subst hv
    obtain ⟨w0, w1, w2⟩ := weights_three hw
    obtain ⟨la, hla, hba⟩ := bytes_came (hval 0 _ v0 rfl rfl) h0 w0
    obtain ⟨lc, hlc⟩ := bools_came (hval 1 _ v1 rfl rfl) h1 w1
    obtain ⟨z, rfl⟩ := okWide_bool Try.underlying4 (hval 2 _ v2 rfl rfl)
    exact ends_walk v0 v1 la lc z W hla hba hlc

set_option maxRecDepth 100000 in
theorem senderEnds_holds : Rows.SenderEndsSaid :=
  OpenClaim.holds_of_wide 5 Try.f5 rfl rfl rfl rfl rfl rfl rfl ⟨rfl, rfl, rfl, rfl, rfl⟩ rfl rfl rfl rfl rfl (by kernel_rfl) Try.func5 (by kernel_rfl)
    (of_decide_eq_true (by kernel_rfl)) (by unfold Func.isWrapper; first | (rw [if_pos (by decide +kernel)]; kernel_rfl) | (rw [if_neg (by decide +kernel)]; exact ⟨rfl, rfl⟩))
    (fun os started H enc _ => senderEnds_lifted os started H enc)
#print axioms senderEnds_holds
end Go.Proofs.Ytncfbaabhceeoaa
