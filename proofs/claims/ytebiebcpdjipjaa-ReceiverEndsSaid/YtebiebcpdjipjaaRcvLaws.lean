/- The law ReceiverEnds of narthexlaw17 returns true for every input, and the arguments read afterwards as before. Conditions: none beyond the row's own. -/
import Derived.Carry
import Derived.Test.YtebiebcpdjipjaaCame3
import Derived.Test.YtebiebcpdjipjaaRcvEnds
namespace Go.Proofs.Ytebiebcpdjipjaa
open Go.ChangeShapes Go.WideShapes Go.ChangeAt Go.RowKit

theorem cells_int : Try.prog.cellsOf 3 = 1 := by kernel_rfl
theorem cells_u8 : Try.prog.cellsOf 5 = 1 := by kernel_rfl
set_option maxRecDepth 100000 in
theorem int_el {H : Type} {enc : TypeId × Value → H} {W : World} (cs : List Value) (d : DataW H) (_ : cs.length = Try.prog.cellsOf 3) (h : Reads enc Try.prog W (fun _ => true) true 3 cs d) : ∃ a : Int, cs = encN a ∧ (-9223372036854775808 ≤ a ∧ a ≤ 9223372036854775807) := by
  obtain ⟨n, rfl, _, h2⟩ := h.int Try.underlying3
  exact ⟨n, rfl, i64_bd h2⟩
set_option maxRecDepth 100000 in
theorem ints_came {H : Type} {enc : TypeId × Value → H} {W : World} {base : Nat} {v : Value} {d : DataW H} {ps : List MemPlace}
    (hval : Value.okWide Try.prog W .any base 23 v) (h : DataW.Trod enc Try.prog W 0 (fun _ => true) true 23 v d ps) (hw : (DataW.weights Try.prog 23 d).all (· ≤ reachBytes) = true) :
    ∃ L : List Int, Vw encN W W.heap.size v L ∧ ∀ a ∈ L, -9223372036854775808 ≤ a ∧ a ≤ 9223372036854775807 := by
  obtain ⟨oa, len, cap, L, rfl, h1, h2, h3, h4, h5⟩ := vw_came Try.underlying23 (by rw [cells_int]; omega) hval h hw encN (fun a => -9223372036854775808 ≤ a ∧ a ≤ 9223372036854775807) 0 (fun a => by rw [cells_int]; rfl) int_el
  exact ⟨L, h4, h5⟩
set_option maxRecDepth 100000 in
theorem bytes_came {H : Type} {enc : TypeId × Value → H} {W : World} {base : Nat} {v : Value} {d : DataW H} {ps : List MemPlace}
    (hval : Value.okWide Try.prog W .any base 22 v) (h : DataW.Trod enc Try.prog W 0 (fun _ => true) true 22 v d ps) (hw : (DataW.weights Try.prog 22 d).all (· ≤ reachBytes) = true) :
    ∃ L : List Nat, Vw encB W W.heap.size v L ∧ ∀ x ∈ L, x < 256 := by
  obtain ⟨oa, len, cap, L, rfl, h1, h2, h3, h4, h5⟩ := vw_came Try.underlying22 (by rw [cells_u8]; omega) hval h hw encB (fun n => n < 256) 0 (fun a => by rw [cells_u8]; rfl) (fun cs d hc hr => byte_el Try.underlying5 cells_u8 cs d hc hr)
  exact ⟨L, h4, h5⟩

set_option maxRecDepth 100000 in
theorem receiverEnds_lifted (os : Os) (started : os.Started) (H : Type) (enc : TypeId × Value → H) :
    ReturnsInHanded {} Try.checked os 3 .any (Rows.receiverEndsSpec.pre6 enc Try.prog Try.f3 [] false)
      (Rows.receiverEndsSpec.post enc Try.prog Try.f3 false true false false) := by
  refine law_frame started enc Try.func3 (by kernel_rfl) rfl ?_ (by kernel_rfl) (by kernel_rfl) ?_
    (ChangeSpec.witness6 (enc := enc) (C := Try.checked) false ⟨#[], #[.slice none 0 0, .slice none 0 0, .bool false, .int .u64 0], []⟩ 8 (by kernel_rfl) (by kernel_rfl) (by kernel_rfl) (by kernel_rfl)) ?_
  · intro ds hl
    rw [Try.params3] at hl
    match ds, hl with
    | [d1, d2, d3, d4], _ => rfl
  · rw [Try.params3]
    intro t ht
    simp only [List.mem_cons, List.not_mem_nil, or_false] at ht
    rcases ht with rfl | rfl | rfl | rfl
    all_goals exact ⟨by kernel_rfl, of_decide_eq_true (by kernel_rfl)⟩
  · intro W base args ds ps hval hA hlt hfz hw
    rw [Try.params3] at hA hval hw
    obtain ⟨v0, v1, v2, v3, d0, d1, d2, d3, p0, p1, p2, p3, hv, rfl, _, h0, h1, h2, h3⟩ := trodAll_four hA
    subst hv
    obtain ⟨w0, w1, _, _⟩ := weights_four hw
    obtain ⟨la, hla, hba⟩ := bytes_came (hval 0 _ v0 rfl rfl) h0 w0
    obtain ⟨lb, hlb, hbb⟩ := ints_came (hval 1 _ v1 rfl rfl) h1 w1
    obtain ⟨rs, rfl⟩ := okWide_bool Try.underlying4 (hval 2 _ v2 rfl rfl)
    obtain ⟨n, rfl, hn⟩ := int_came Try.underlying24 (hval 3 _ v3 rfl rfl) h3
    have hn := u64_bd hn
    obtain ⟨m, rfl⟩ : ∃ m : Nat, n = (m : Int) := ⟨n.toNat, by omega⟩
    exact ends_walk v0 v1 la lb rs m W hla hba hlb hbb (by omega)

set_option maxRecDepth 100000 in
theorem receiverEnds_holds : Rows.ReceiverEndsSaid :=
  OpenClaim.holds_of_wide 3 Try.f3 rfl rfl rfl rfl rfl rfl rfl ⟨rfl, rfl, rfl, rfl, rfl⟩ rfl rfl rfl rfl rfl (by kernel_rfl) Try.func3 (by kernel_rfl)
    (of_decide_eq_true (by kernel_rfl)) (by unfold Func.isWrapper; first | (rw [if_pos (by decide +kernel)]; kernel_rfl) | (rw [if_neg (by decide +kernel)]; exact ⟨rfl, rfl⟩))
    (fun os started H enc _ => receiverEnds_lifted os started H enc)
#print axioms receiverEnds_holds
end Go.Proofs.Ytebiebcpdjipjaa
