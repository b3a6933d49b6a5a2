/- The laws InbufFirst, InbufOrder, InbufPlays and InbufNumbers of narthexlaw14 return true for every input, and the arguments read afterwards as before. Conditions: none beyond the row's own. -/
import Derived.Test.YtojklmbbepgciaaCame3
import Derived.Test.YtojklmbbepgciaaInbFirst
import Derived.Test.YtojklmbbepgciaaInbOrder
import Derived.Test.YtojklmbbepgciaaInbNum
namespace Go.Proofs.Ytojklmbbepgciaa
open Go.ChangeShapes Go.WideShapes Go.ChangeAt Go.RowKit

theorem cells_u8 : Try.prog.cellsOf 5 = 1 := by kernel_rfl
theorem bytes_came {H : Type} {enc : TypeId × Value → H} {W : World} {base : Nat} {v : Value} {d : DataW H} {ps : List MemPlace}
    (hval : Value.okWide Try.prog W .any base 22 v) (h : DataW.Trod enc Try.prog W 0 (fun _ => true) true 22 v d ps) (hw : (DataW.weights Try.prog 22 d).all (· ≤ reachBytes) = true) :
    ∃ L : List Nat, Vw encB W W.heap.size v L ∧ Bys L := by
  obtain ⟨oa, len, cap, L, rfl, h1, h2, h3, h4, h5⟩ := vw_came Try.underlying22 (by rw [cells_u8]; omega) hval h hw encB (· < 256) 0 (fun a => by rw [encB_len, cells_u8]) (byte_el Try.underlying5 cells_u8)
  exact ⟨L, h4, h5⟩

theorem cells_ask : Try.prog.cellsOf 29 = 8 := by kernel_rfl
theorem cells_int : Try.prog.cellsOf 3 = 1 := by kernel_rfl
theorem cells_bool : Try.prog.cellsOf 4 = 1 := by kernel_rfl
theorem cells_u64 : Try.prog.cellsOf 27 = 1 := by kernel_rfl
theorem cells_bytes : Try.prog.cellsOf 22 = 1 := by kernel_rfl
theorem len8 {l : List Value} (h : l.length = 8) : ∃ a b c d e f g i, l = [a, b, c, d, e, f, g, i] := by
  match l, h with
  | [a, b, c, d, e, f, g, i], _ => exact ⟨a, b, c, d, e, f, g, i, rfl⟩
theorem ask_el {H : Type} {enc : TypeId × Value → H} {W : World} (cs : List Value) (d : DataW H) (hl : cs.length = Try.prog.cellsOf 29) (h : Reads enc Try.prog W (fun _ => true) true 29 cs d) :
    ∃ a : AkI, cs = encI a ∧ AkIOk W W.heap.size a := by
  rw [cells_ask] at hl
  obtain ⟨c0, c1, c2, c3, c4, c5, c6, c7, rfl⟩ := len8 hl
  obtain ⟨_, D', _, hf⟩ := h.fields Try.underlying29
  obtain ⟨z0, e0, _, w0⟩ := (hf 0 _ rfl).int Try.underlying3
  obtain ⟨z1, e1, _, w1⟩ := (hf 1 _ rfl).int Try.underlying3
  obtain ⟨z2, e2, _, w2⟩ := (hf 2 _ rfl).int Try.underlying3
  obtain ⟨z3, e3, _, w3⟩ := (hf 3 _ rfl).int Try.underlying3
  obtain ⟨z4, e4, _⟩ := (hf 4 _ rfl).bool Try.underlying4
  obtain ⟨z5, e5, _⟩ := (hf 5 _ rfl).bool Try.underlying4
  obtain ⟨z6, e6, _, w6⟩ := (hf 6 _ rfl).int Try.underlying27
  obtain ⟨v7, L7, e7, hv7, hb7⟩ := bytes_read Try.underlying22 Try.underlying5 cells_u8 (hf 7 _ rfl)
  simp [cells_int, cells_bool, cells_u64, cells_bytes] at e0 e1 e2 e3 e4 e5 e6 e7
  subst e0 e1 e2 e3 e4 e5 e6 e7
  have b6 := u64_bd w6
  refine ⟨⟨z0, z1, z2, z3, z4, z5, z6.toNat, c7⟩, ?_, ?_⟩
  · rw [encI, show ((z6.toNat : Nat) : Int) = z6 by omega]
  · exact ⟨i64_bd w0, i64_bd w1, i64_bd w2, i64_bd w3, by show z6.toNat < _; omega, ⟨L7, hv7, hb7⟩⟩
theorem asks_came {H : Type} {enc : TypeId × Value → H} {W : World} {base : Nat} {v : Value} {d : DataW H} {ps : List MemPlace}
    (hval : Value.okWide Try.prog W .any base 23 v) (h : DataW.Trod enc Try.prog W 0 (fun _ => true) true 23 v d ps) (hw : (DataW.weights Try.prog 23 d).all (· ≤ reachBytes) = true) :
    ∃ L : List AkI, Vw encI W W.heap.size v L ∧ ∀ a ∈ L, AkIOk W W.heap.size a := by
  obtain ⟨oa, len, cap, L, rfl, h1, h2, h3, h4, h5⟩ := vw_came Try.underlying23 (by rw [cells_ask]; omega) hval h hw encI (AkIOk W W.heap.size) ⟨0, 0, 0, 0, false, false, 0, .slice none 0 0⟩ (fun a => by rw [encI_len, cells_ask]) ask_el
  exact ⟨L, h4, h5⟩

theorem inbufFirst_lifted (os : Os) (started : os.Started) (H : Type) (enc : TypeId × Value → H) :
    ReturnsInHanded {} Try.checked os 6 .any (Rows.inbufFirstSpec.pre6 enc Try.prog Try.f6 [] false)
      (Rows.inbufFirstSpec.post enc Try.prog Try.f6 false true false false) := by
  refine law_frame started enc Try.func6 (by kernel_rfl) rfl ?_ (by kernel_rfl) (by kernel_rfl) ?_
    (ChangeSpec.witness6 (enc := enc) (C := Try.checked) false ⟨#[], #[.slice none 0 0, .slice none 0 0, .int .i64 0, .int .u64 0], []⟩ 8 (by kernel_rfl) (by kernel_rfl) (by kernel_rfl) (by kernel_rfl)) ?_
  · intro ds hl
    rw [Try.params6] at hl
    match ds, hl with
    | [d1, d2, d3, d4], _ => rfl
  · rw [Try.params6]
    intro t ht
    simp only [List.mem_cons, List.not_mem_nil, or_false] at ht
    rcases ht with rfl | rfl | rfl | rfl
    all_goals exact ⟨by kernel_rfl, of_decide_eq_true (by kernel_rfl)⟩
  · intro W base args ds ps hval hA hlt hfz hw
    rw [Try.params6] at hA hval hw
    obtain ⟨v0, v1, v2, v3, d0, d1, d2, d3, p0, p1, p2, p3, hv, rfl, _, h0, h1, h2, h3⟩ := trodAll_four hA
    subst hv
    obtain ⟨w0, w1, w2, w3⟩ := weights_four hw
    obtain ⟨la, hla, hba⟩ := bytes_came (hval 0 _ v0 rfl rfl) h0 w0
    obtain ⟨lb, hlb, hbb⟩ := bytes_came (hval 1 _ v1 rfl rfl) h1 w1
    obtain ⟨m, rfl, hm⟩ := int_came Try.underlying3 (hval 2 _ v2 rfl rfl) h2
    obtain ⟨z, rfl, hz⟩ := int_came Try.underlying27 (hval 3 _ v3 rfl rfl) h3
    have b0 := i64_bd hm
    have b2 := u64_bd hz
    have e : z = ((z.toNat : Nat) : Int) := by omega
    rw [e]
    exact first_walk v0 v1 la lb m z.toNat W hla hlb hba hbb b0.1 b0.2 (by omega)

theorem inbufFirst_holds : Rows.InbufFirstSaid :=
  OpenClaim.holds_of_wide 6 Try.f6 rfl rfl rfl rfl rfl rfl rfl ⟨rfl, rfl, rfl, rfl, rfl⟩ rfl rfl rfl rfl rfl (by kernel_rfl) Try.func6 (by kernel_rfl)
    (of_decide_eq_true (by kernel_rfl)) (by unfold Func.isWrapper; first | (rw [if_pos (by decide +kernel)]; kernel_rfl) | (rw [if_neg (by decide +kernel)]; exact ⟨rfl, rfl⟩))
    (fun os started H enc _ => inbufFirst_lifted os started H enc)
#print axioms inbufFirst_holds

theorem inbufOrder_lifted (os : Os) (started : os.Started) (H : Type) (enc : TypeId × Value → H) :
    ReturnsInHanded {} Try.checked os 3 .any (Rows.inbufOrderSpec.pre6 enc Try.prog Try.f3 [] false)
      (Rows.inbufOrderSpec.post enc Try.prog Try.f3 false true false false) := by
  refine law_frame started enc Try.func3 (by kernel_rfl) rfl ?_ (by kernel_rfl) (by kernel_rfl) ?_
    (ChangeSpec.witness6 (enc := enc) (C := Try.checked) false ⟨#[], #[.slice none 0 0, .slice none 0 0], []⟩ 8 (by kernel_rfl) (by kernel_rfl) (by kernel_rfl) (by kernel_rfl)) ?_
  · intro ds hl
    rw [Try.params3] at hl
    match ds, hl with
    | [d1, d2], _ => rfl
  · rw [Try.params3]
    intro t ht
    simp only [List.mem_cons, List.not_mem_nil, or_false] at ht
    rcases ht with rfl | rfl
    all_goals exact ⟨by kernel_rfl, of_decide_eq_true (by kernel_rfl)⟩
  · intro W base args ds ps hval hA hlt hfz hw
    rw [Try.params3] at hA hval hw
    obtain ⟨v0, v1, d0, d1, p0, p1, hv, rfl, _, h0, h1⟩ := trodAll_two hA
    subst hv
    obtain ⟨w0, w1⟩ := weights_two hw
    obtain ⟨la, hla, hba⟩ := bytes_came (hval 0 _ v0 rfl rfl) h0 w0
    obtain ⟨L, hL, hLo⟩ := asks_came (hval 1 _ v1 rfl rfl) h1 w1
    exact order_walk v0 v1 la L W hla hba hL hLo

theorem inbufOrder_holds : Rows.InbufOrderSaid :=
  OpenClaim.holds_of_wide 3 Try.f3 rfl rfl rfl rfl rfl rfl rfl ⟨rfl, rfl, rfl, rfl, rfl⟩ rfl rfl rfl rfl rfl (by kernel_rfl) Try.func3 (by kernel_rfl)
    (of_decide_eq_true (by kernel_rfl)) (by unfold Func.isWrapper; first | (rw [if_pos (by decide +kernel)]; kernel_rfl) | (rw [if_neg (by decide +kernel)]; exact ⟨rfl, rfl⟩))
    (fun os started H enc _ => inbufOrder_lifted os started H enc)
#print axioms inbufOrder_holds

theorem inbufPlays_lifted (os : Os) (started : os.Started) (H : Type) (enc : TypeId × Value → H) :
    ReturnsInHanded {} Try.checked os 5 .any (Rows.inbufPlaysSpec.pre6 enc Try.prog Try.f5 [] false)
      (Rows.inbufPlaysSpec.post enc Try.prog Try.f5 false true false false) := by
  refine law_frame started enc Try.func5 (by kernel_rfl) rfl ?_ (by kernel_rfl) (by kernel_rfl) ?_
    (ChangeSpec.witness6 (enc := enc) (C := Try.checked) false ⟨#[], #[.slice none 0 0], []⟩ 8 (by kernel_rfl) (by kernel_rfl) (by kernel_rfl) (by kernel_rfl)) ?_
  · intro ds hl
    rw [Try.params5] at hl
    match ds, hl with
    | [d1], _ => rfl
  · rw [Try.params5]
    intro t ht
    simp only [List.mem_cons, List.not_mem_nil, or_false] at ht
    rcases ht with rfl
    all_goals exact ⟨by kernel_rfl, of_decide_eq_true (by kernel_rfl)⟩
  · intro W base args ds ps hval hA hlt hfz hw
    rw [Try.params5] at hA hval hw
    obtain ⟨v0, d0, rfl, rfl, h0⟩ := trodAll_one hA
    have w0 := weights_one hw
    obtain ⟨L, hL, hLo⟩ := asks_came (hval 0 _ v0 rfl rfl) h0 w0
    exact plays_walk v0 L W hL hLo

theorem inbufPlays_holds : Rows.InbufPlaysSaid :=
  OpenClaim.holds_of_wide 5 Try.f5 rfl rfl rfl rfl rfl rfl rfl ⟨rfl, rfl, rfl, rfl, rfl⟩ rfl rfl rfl rfl rfl (by kernel_rfl) Try.func5 (by kernel_rfl)
    (of_decide_eq_true (by kernel_rfl)) (by unfold Func.isWrapper; first | (rw [if_pos (by decide +kernel)]; kernel_rfl) | (rw [if_neg (by decide +kernel)]; exact ⟨rfl, rfl⟩))
    (fun os started H enc _ => inbufPlays_lifted os started H enc)
#print axioms inbufPlays_holds

theorem inbufNumbers_lifted (os : Os) (started : os.Started) (H : Type) (enc : TypeId × Value → H) :
    ReturnsInHanded {} Try.checked os 4 .any (Rows.inbufNumbersSpec.pre6 enc Try.prog Try.f4 [] false)
      (Rows.inbufNumbersSpec.post enc Try.prog Try.f4 false true false false) := by
  refine law_frame started enc Try.func4 (by kernel_rfl) rfl ?_ (by kernel_rfl) (by kernel_rfl) ?_
    (ChangeSpec.witness6 (enc := enc) (C := Try.checked) false ⟨#[], #[], []⟩ 8 (by kernel_rfl) (by kernel_rfl) (by kernel_rfl) (by kernel_rfl)) ?_
  · intro ds hl
    rw [Try.params4] at hl
    match ds, hl with
    | [], _ => rfl
  · rw [Try.params4]
    intro t ht
    cases ht
  · intro W base args ds ps hval hA hlt hfz hw
    rw [Try.params4] at hA hval hw
    obtain ⟨rfl, rfl, rfl⟩ := trodAll_none hA
    exact numbers_walk W

theorem inbufNumbers_holds : Rows.InbufNumbersSaid :=
  OpenClaim.holds_of_wide 4 Try.f4 rfl rfl rfl rfl rfl rfl rfl ⟨rfl, rfl, rfl, rfl, rfl⟩ rfl rfl rfl rfl rfl (by kernel_rfl) Try.func4 (by kernel_rfl)
    (of_decide_eq_true (by kernel_rfl)) (by unfold Func.isWrapper; first | (rw [if_pos (by decide +kernel)]; kernel_rfl) | (rw [if_neg (by decide +kernel)]; exact ⟨rfl, rfl⟩))
    (fun os started H enc _ => inbufNumbers_lifted os started H enc)
#print axioms inbufNumbers_holds
end Go.Proofs.Ytojklmbbepgciaa
