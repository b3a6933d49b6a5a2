/- The law OutbufRoom of narthexlaw15 returns true for every input, and the arguments read afterwards as before. Conditions: none beyond the row's own. -/
import Derived.Test.YtkebjfaphmamjaaCame3
import Derived.Test.YtkebjfaphmamjaaOutRoom
namespace Go.Proofs.Ytkebjfaphmamjaa
open Go.ChangeShapes Go.WideShapes Go.ChangeAt Go.RowKit

theorem cells_int : Try.prog.cellsOf 3 = 1 := by kernel_rfl
theorem num_el {H : Type} {enc : TypeId × Value → H} {W : World} (cs : List Value) (d : DataW H) (_ : cs.length = Try.prog.cellsOf 3) (h : Reads enc Try.prog W (fun _ => true) true 3 cs d) : ∃ a : Int, cs = encN a ∧ I64 a := by
  obtain ⟨n, rfl, _, h2⟩ := h.int Try.underlying3
  exact ⟨n, rfl, i64_bd h2⟩
theorem nums_came {H : Type} {enc : TypeId × Value → H} {W : World} {base : Nat} {v : Value} {d : DataW H} {ps : List MemPlace}
    (hval : Value.okWide Try.prog W .any base 22 v) (h : DataW.Trod enc Try.prog W 0 (fun _ => true) true 22 v d ps) (hw : (DataW.weights Try.prog 22 d).all (· ≤ reachBytes) = true) :
    ∃ L : List Int, Vw encN W W.heap.size v L ∧ ∀ x ∈ L, I64 x := by
  obtain ⟨oa, len, cap, L, rfl, h1, h2, h3, h4, h5⟩ := vw_came Try.underlying22 (by rw [cells_int]; omega) hval h hw encN I64 0 (fun a => by rw [cells_int]; rfl) num_el
  exact ⟨L, h4, h5⟩

theorem outbufRoom_lifted (os : Os) (started : os.Started) (H : Type) (enc : TypeId × Value → H) :
    ReturnsInHanded {} Try.checked os 3 .any (Rows.outbufRoomSpec.pre6 enc Try.prog Try.f3 [] false)
      (Rows.outbufRoomSpec.post enc Try.prog Try.f3 false true false false) := by
  refine law_frame started enc Try.func3 (by kernel_rfl) rfl ?_ (by kernel_rfl) (by kernel_rfl) ?_
    (ChangeSpec.witness6 (enc := enc) (C := Try.checked) false ⟨#[], #[.slice none 0 0, .slice none 0 0], []⟩ 8 (by kernel_rfl) (by kernel_rfl) (by kernel_rfl) (by kernel_rfl)) ?_
  · intro ds hl
    rw [Try.params3] at hl
    match ds, hl with
    | [d1, d2], _ => rfl
  · rw [Try.params3]
    intro t ht
    simp only [List.mem_cons, List.not_mem_nil, or_false] at ht
    rcases ht with rfl | rfl
    all_goals exact ⟨by kernel_rfl, of_decide_eq_true (by kernel_rfl)⟩
  · intro W base args ds ps hval hA hlt hfz hw
    rw [Try.params3] at hA hval hw
    obtain ⟨v0, v1, d0, d1, p0, p1, hv, rfl, _, h0, h1⟩ := trodAll_two hA
    subst hv
    obtain ⟨w0, w1⟩ := weights_two hw
    obtain ⟨la, hla, hba⟩ := nums_came (hval 0 _ v0 rfl rfl) h0 w0
    obtain ⟨lb, hlb, hbb⟩ := nums_came (hval 1 _ v1 rfl rfl) h1 w1
    exact room_walk v0 v1 la lb W hla hba hlb hbb

theorem outbufRoom_holds : Rows.OutbufRoomSaid :=
  OpenClaim.holds_of_wide 3 Try.f3 rfl rfl rfl rfl rfl rfl rfl ⟨rfl, rfl, rfl, rfl, rfl⟩ rfl rfl rfl rfl rfl (by kernel_rfl) Try.func3 (by kernel_rfl)
    (of_decide_eq_true (by kernel_rfl)) (by unfold Func.isWrapper; first | (rw [if_pos (by decide +kernel)]; kernel_rfl) | (rw [if_neg (by decide +kernel)]; exact ⟨rfl, rfl⟩))
    (fun os started H enc _ => outbufRoom_lifted os started H enc)
#print axioms outbufRoom_holds
end Go.Proofs.Ytkebjfaphmamjaa
