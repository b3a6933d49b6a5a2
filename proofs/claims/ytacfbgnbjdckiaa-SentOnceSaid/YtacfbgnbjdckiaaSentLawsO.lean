/- The law SentOnce of narthexlaw11 returns true for every input, and the arguments read afterwards as before. Conditions: none beyond the row's own. -/
import Derived.Test.YtacfbgnbjdckiaaCame3
import Derived.Test.YtacfbgnbjdckiaaSentOnce
namespace Go.Proofs.Ytacfbgnbjdckiaa
open Go.ChangeShapes Go.WideShapes Go.ChangeAt Go.RowKit

theorem cells_bool : Try.prog.cellsOf 4 = 1 := by kernel_rfl
theorem cells_u64 : Try.prog.cellsOf 29 = 1 := by kernel_rfl
theorem cells_u64s : Try.prog.cellsOf 35 = 1 := by kernel_rfl
theorem bool_el {H : Type} {enc : TypeId × Value → H} {W : World} (cs : List Value) (d : DataW H) (_ : cs.length = Try.prog.cellsOf 4) (h : Reads enc Try.prog W (fun _ => true) true 4 cs d) : ∃ a : Bool, cs = encL a ∧ True := by
  obtain ⟨n, rfl, _⟩ := h.bool Try.underlying4
  exact ⟨n, rfl, trivial⟩
theorem bools_came {H : Type} {enc : TypeId × Value → H} {W : World} {base : Nat} {v : Value} {d : DataW H} {ps : List MemPlace}
    (hval : Value.okWide Try.prog W .any base 22 v) (h : DataW.Trod enc Try.prog W 0 (fun _ => true) true 22 v d ps) (hw : (DataW.weights Try.prog 22 d).all (· ≤ reachBytes) = true) :
    ∃ L : List Bool, Vw encL W W.heap.size v L := by
  obtain ⟨oa, len, cap, L, rfl, h1, h2, h3, h4, h5⟩ := vw_came Try.underlying22 (by rw [cells_bool]; omega) hval h hw encL (fun _ => True) false (fun a => by rw [cells_bool]; rfl) bool_el
  exact ⟨L, h4⟩
theorem u64_el {H : Type} {enc : TypeId × Value → H} {W : World} (cs : List Value) (d : DataW H) (_ : cs.length = Try.prog.cellsOf 29) (h : Reads enc Try.prog W (fun _ => true) true 29 cs d) : ∃ a : Nat, cs = encU a ∧ a < 18446744073709551616 := by
  obtain ⟨n, rfl, _, h2⟩ := h.int Try.underlying29
  have := u64_bd h2
  exact ⟨n.toNat, by rw [encU, show ((n.toNat : Nat) : Int) = n by omega], by omega⟩
theorem row_el {H : Type} {enc : TypeId × Value → H} {W : World} (cs : List Value) (d : DataW H) (_ : cs.length = Try.prog.cellsOf 35) (h : Reads enc Try.prog W (fun _ => true) true 35 cs d) : ∃ a : Value, cs = encV a ∧ U64s W W.heap.size a := by
  obtain ⟨oa, len, cap, D, spl, rfl, hS, _⟩ := h.slice Try.underlying35 (by rw [cells_u64]; omega)
  obtain ⟨L, h1, h2, h3⟩ := sliceIs_vw hS encU (· < 18446744073709551616) 0 (fun a => by rw [encU_len, cells_u64]) u64_el
  exact ⟨_, rfl, L, h2, h3⟩
theorem rows_came {H : Type} {enc : TypeId × Value → H} {W : World} {base : Nat} {v : Value} {d : DataW H} {ps : List MemPlace}
    (hval : Value.okWide Try.prog W .any base 23 v) (h : DataW.Trod enc Try.prog W 0 (fun _ => true) true 23 v d ps) (hw : (DataW.weights Try.prog 23 d).all (· ≤ reachBytes) = true) :
    ∃ L : List Value, Vw encV W W.heap.size v L ∧ ∀ x ∈ L, U64s W W.heap.size x := by
  obtain ⟨oa, len, cap, L, rfl, h1, h2, h3, h4, h5⟩ := vw_came Try.underlying23 (by rw [cells_u64s]; omega) hval h hw encV (U64s W W.heap.size) (.slice none 0 0) (fun a => by rw [cells_u64s]; rfl) row_el
  exact ⟨L, h4, h5⟩

theorem sentOnce_lifted (os : Os) (started : os.Started) (H : Type) (enc : TypeId × Value → H) :
    ReturnsInHanded {} Try.checked os 3 .any (Rows.sentOnceSpec.pre6 enc Try.prog Try.f3 [] false)
      (Rows.sentOnceSpec.post enc Try.prog Try.f3 false true false false) := by
  refine law_frame started enc Try.func3 (by kernel_rfl) rfl ?_ (by kernel_rfl) (by kernel_rfl) ?_
    (ChangeSpec.witness6 (enc := enc) (C := Try.checked) false ⟨#[], #[.slice none 0 0, .slice none 0 0], []⟩ 8 (by kernel_rfl) (by kernel_rfl) (by kernel_rfl) (by kernel_rfl)) ?_
  · intro ds hl
    rw [Try.params3] at hl
    match ds, hl with
    | [d1, d2], _ => rfl
  · rw [Try.params3]
    intro t ht
    simp only [List.mem_cons, List.not_mem_nil, or_false] at ht
    rcases ht with rfl | rfl
    all_goals exact ⟨by kernel_rfl, of_decide_eq_true (by kernel_rfl)⟩
  · intro W base args ds ps hval hA hlt hfz hw
    rw [Try.params3] at hA hval hw
    obtain ⟨v0, v1, d0, d1, p0, p1, hv, rfl, _, h0, h1⟩ := trodAll_two hA
    subst hv
    obtain ⟨w0, w1⟩ := weights_two hw
    obtain ⟨la, hla⟩ := bools_came (hval 0 _ v0 rfl rfl) h0 w0
    obtain ⟨lb, hlb, hbb⟩ := rows_came (hval 1 _ v1 rfl rfl) h1 w1
    exact once_walk v0 v1 la lb W hla hlb hbb

theorem sentOnce_holds : Rows.SentOnceSaid :=
  OpenClaim.holds_of_wide 3 Try.f3 rfl rfl rfl rfl rfl rfl rfl ⟨rfl, rfl, rfl, rfl, rfl⟩ rfl rfl rfl rfl rfl (by kernel_rfl) Try.func3 (by kernel_rfl)
    (of_decide_eq_true (by kernel_rfl)) (by unfold Func.isWrapper; first | (rw [if_pos (by decide +kernel)]; kernel_rfl) | (rw [if_neg (by decide +kernel)]; exact ⟨rfl, rfl⟩))
    (fun os started H enc _ => sentOnce_lifted os started H enc)
#print axioms sentOnce_holds
end Go.Proofs.Ytacfbgnbjdckiaa
