/- The law InbufFirst of narthexlaw14 returns true for every input, and the arguments read afterwards as before. Conditions: none beyond the row's own. -/
import Derived.Test.YtojklmbbepgciaaCame3
import Derived.Test.YtojklmbbepgciaaInbFirst
namespace Go.Proofs.Ytojklmbbepgciaa
open Go.ChangeShapes Go.WideShapes Go.ChangeAt Go.RowKit

theorem cells_u8 : Try.prog.cellsOf 5 = 1 := by kernel_rfl
theorem bytes_came {H : Type} {enc : TypeId × Value → H} {W : World} {base : Nat} {v : Value} {d : DataW H} {ps : List MemPlace}
    (hval : Value.okWide Try.prog W .any base 22 v) (h : DataW.Trod enc Try.prog W 0 (fun _ => true) true 22 v d ps) (hw : (DataW.weights Try.prog 22 d).all (· ≤ reachBytes) = true) :
    ∃ L : List Nat, Vw encB W W.heap.size v L ∧ Bys L := by
  obtain ⟨oa, len, cap, L, rfl, h1, h2, h3, h4, h5⟩ := vw_came Try.underlying22 (by rw [cells_u8]; omega) hval h hw encB (· < 256) 0 (fun a => by rw [encB_len, cells_u8]) (byte_el Try.underlying5 cells_u8)
  exact ⟨L, h4, h5⟩

theorem inbufFirst_lifted (os : Os) (started : os.Started) (H : Type) (enc : TypeId × Value → H) :
    ReturnsInHanded {} Try.checked os 6 .any (Rows.inbufFirstSpec.pre6 enc Try.prog Try.f6 [] false)
      (Rows.inbufFirstSpec.post enc Try.prog Try.f6 false true false false) := by
  refine law_frame started enc Try.func6 (by kernel_rfl) rfl ?_ (by kernel_rfl) (by kernel_rfl) ?_
    (ChangeSpec.witness6 (enc := enc) (C := Try.checked) false ⟨#[], #[.slice none 0 0, .slice none 0 0, .int .i64 0, .int .u64 0], []⟩ 8 (by kernel_rfl) (by kernel_rfl) (by kernel_rfl) (by kernel_rfl)) ?_
  · intro ds hl
    rw [Try.params6] at hl
    match ds, hl with
    | [d1, d2, d3, d4], _ => rfl
  · rw [Try.params6]
    intro t ht
    simp only [List.mem_cons, List.not_mem_nil, or_false] at ht
    rcases ht with rfl | rfl | rfl | rfl
    all_goals exact ⟨by kernel_rfl, of_decide_eq_true (by kernel_rfl)⟩
  · intro W base args ds ps hval hA hlt hfz hw
    rw [Try.params6] at hA hval hw
    obtain ⟨v0, v1, v2, v3, d0, d1, d2, d3, p0, p1, p2, p3, hv, rfl, _, h0, h1, h2, h3⟩ := trodAll_four hA
    subst hv
    obtain ⟨w0, w1, w2, w3⟩ := weights_four hw
    obtain ⟨la, hla, hba⟩ := bytes_came (hval 0 _ v0 rfl rfl) h0 w0
    obtain ⟨lb, hlb, hbb⟩ := bytes_came (hval 1 _ v1 rfl rfl) h1 w1
    obtain ⟨m, rfl, hm⟩ := int_came Try.underlying3 (hval 2 _ v2 rfl rfl) h2
    obtain ⟨z, rfl, hz⟩ := int_came Try.underlying27 (hval 3 _ v3 rfl rfl) h3
    have b0 := i64_bd hm
    have b2 := u64_bd hz
    have e : z = ((z.toNat : Nat) : Int) := by omega
    rw [e]
    exact first_walk v0 v1 la lb m z.toNat W hla hlb hba hbb b0.1 b0.2 (by omega)

theorem inbufFirst_holds : Rows.InbufFirstSaid :=
  OpenClaim.holds_of_wide 6 Try.f6 rfl rfl rfl rfl rfl rfl rfl ⟨rfl, rfl, rfl, rfl, rfl⟩ rfl rfl rfl rfl rfl (by kernel_rfl) Try.func6 (by kernel_rfl)
    (of_decide_eq_true (by kernel_rfl)) (by unfold Func.isWrapper; first | (rw [if_pos (by decide +kernel)]; kernel_rfl) | (rw [if_neg (by decide +kernel)]; exact ⟨rfl, rfl⟩))
    (fun os started H enc _ => inbufFirst_lifted os started H enc)
#print axioms inbufFirst_holds
end Go.Proofs.Ytojklmbbepgciaa
