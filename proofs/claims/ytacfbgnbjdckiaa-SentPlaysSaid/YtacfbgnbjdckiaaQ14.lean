/- The law SentPlays of narthexlaw11 returns true for every input, and the arguments read afterwards as before. Conditions: none beyond the row's own. -/
import Derived.Test.YtacfbgnbjdckiaaQ2
import Derived.Test.YtacfbgnbjdckiaaQ13
namespace Go.Proofs.Ytacfbgnbjdckiaa
open Go.ChangeShapes Go.WideShapes Go.ChangeAt Go.RowKit

theorem cells_int : Try.prog.cellsOf 3 = 1 := by kernel_rfl
theorem cells_i64 : Try.prog.cellsOf 2 = 1 := by kernel_rfl
theorem cells_bool : Try.prog.cellsOf 4 = 1 := by kernel_rfl
theorem cells_u64 : Try.prog.cellsOf 29 = 1 := by kernel_rfl
theorem cells_u64s : Try.prog.cellsOf 35 = 1 := by kernel_rfl
theorem cells_rgs : Try.prog.cellsOf 33 = 1 := by kernel_rfl
theorem cells_frs : Try.prog.cellsOf 30 = 1 := by kernel_rfl
theorem cells_rg : Try.prog.cellsOf 37 = 2 := by kernel_rfl
theorem cells_fr : Try.prog.cellsOf 77 = 19 := by kernel_rfl
theorem cells_pk : Try.prog.cellsOf 32 = 5 := by kernel_rfl
theorem cells_ask : Try.prog.cellsOf 56 = 13 := by kernel_rfl
theorem len2 {l : List Value} (h : l.length = 2) : ∃ a b, l = [a, b] := by
  match l, h with
  | [a, b], _ => exact ⟨a, b, rfl⟩
theorem len13 {l : List Value} (h : l.length = 13) : ∃ a b c d e f g i j k m n o, l = [a, b, c, d, e, f, g, i, j, k, m, n, o] := by
  match l, h with
  | [a, b, c, d, e, f, g, i, j, k, m, n, o], _ => exact ⟨a, b, c, d, e, f, g, i, j, k, m, n, o, rfl⟩
set_option maxRecDepth 100000 in
theorem u64_el {H : Type} {enc : TypeId × Value → H} {W : World} (cs : List Value) (d : DataW H) (_ : cs.length = Try.prog.cellsOf 29) (h : Reads enc Try.prog W (fun _ => true) true 29 cs d) : ∃ a : Nat, cs = encU a ∧ a < 18446744073709551616 := by
  obtain ⟨n, rfl, _, h2⟩ := h.int Try.underlying29
  have := u64_bd h2
  exact ⟨n.toNat, by rw [encU, show ((n.toNat : Nat) : Int) = n by omega], by omega⟩
set_option maxRecDepth 100000 in
theorem u64s_el {H : Type} {enc : TypeId × Value → H} {W : World} {cs : List Value} {d : DataW H} (h : Reads enc Try.prog W (fun _ => true) true 35 cs d) : ∃ a : Value, cs = [a] ∧ ∃ L, Vw encU W W.heap.size a L ∧ ∀ x ∈ L, x < 18446744073709551616 := by
  obtain ⟨oa, len, cap, D, spl, rfl, hS, _⟩ := h.slice Try.underlying35 (by rw [cells_u64]; omega)
  obtain ⟨L, h1, h2, h3⟩ := sliceIs_vw hS encU (· < 18446744073709551616) 0 (fun a => by rw [encU_len, cells_u64]) u64_el
  exact ⟨_, rfl, L, h2, h3⟩
set_option maxRecDepth 100000 in
theorem rg_el {H : Type} {enc : TypeId × Value → H} {W : World} (cs : List Value) (d : DataW H) (hl : cs.length = Try.prog.cellsOf 37) (h : Reads enc Try.prog W (fun _ => true) true 37 cs d) : ∃ a : Rg, cs = encR a ∧ (a.1 < 18446744073709551616 ∧ a.2 < 18446744073709551616) := by
  rw [cells_rg] at hl
  obtain ⟨c0, c1, rfl⟩ := len2 hl
  obtain ⟨_, D', _, hf⟩ := h.fields Try.underlying37
  obtain ⟨z0, e0, _, w0⟩ := (hf 0 _ rfl).int Try.underlying29
  obtain ⟨z1, e1, _, w1⟩ := (hf 1 _ rfl).int Try.underlying29
  simp [cells_u64] at e0 e1
  subst e0 e1
  have b0 := u64_bd w0
  have b1 := u64_bd w1
  refine ⟨(z0.toNat, z1.toNat), ?_, by show z0.toNat < _; omega, by show z1.toNat < _; omega⟩
  rw [encR, show ((z0.toNat : Nat) : Int) = z0 by omega, show ((z1.toNat : Nat) : Int) = z1 by omega]
set_option maxRecDepth 100000 in
theorem rgs_el {H : Type} {enc : TypeId × Value → H} {W : World} {cs : List Value} {d : DataW H} (h : Reads enc Try.prog W (fun _ => true) true 33 cs d) : ∃ a : Value, cs = [a] ∧ RgsOk W W.heap.size a := by
  obtain ⟨oa, len, cap, D, spl, rfl, hS, _⟩ := h.slice Try.underlying33 (by rw [cells_rg]; omega)
  obtain ⟨L, h1, h2, h3⟩ := sliceIs_vw hS encR (fun r => r.1 < 18446744073709551616 ∧ r.2 < 18446744073709551616) (0, 0) (fun a => by rw [encR_len, cells_rg]) rg_el
  exact ⟨_, rfl, L, h2, h3⟩
set_option maxRecDepth 100000 in
theorem frs_el {H : Type} {enc : TypeId × Value → H} {W : World} {cs : List Value} {d : DataW H} (h : Reads enc Try.prog W (fun _ => true) true 30 cs d) : ∃ oa len cap, cs = [.slice oa len cap] := by
  obtain ⟨oa, len, cap, D, spl, rfl, hS, _⟩ := h.slice Try.underlying30 (by rw [cells_fr]; omega)
  exact ⟨_, _, _, rfl⟩
set_option maxRecDepth 100000 in
theorem ask_el {H : Type} {enc : TypeId × Value → H} {W : World} (cs : List Value) (d : DataW H) (hl : cs.length = Try.prog.cellsOf 56) (h : Reads enc Try.prog W (fun _ => true) true 56 cs d) :
    ∃ a : AkS, cs = encAS a ∧ AkSOk W W.heap.size a := by
  rw [cells_ask] at hl
  obtain ⟨c0, c1, c2, c3, c4, c5, c6, c7, c8, c9, c10, c11, c12, rfl⟩ := len13 hl
  obtain ⟨_, D', _, hf⟩ := h.fields Try.underlying56
  obtain ⟨z0, e0, _, w0⟩ := (hf 0 _ rfl).int Try.underlying3
  obtain ⟨z1, e1, _, w1⟩ := (hf 1 _ rfl).int Try.underlying3
  obtain ⟨z2, e2, _, w2⟩ := (hf 2 _ rfl).int Try.underlying3
  obtain ⟨z3, e3, _⟩ := (hf 3 _ rfl).bool Try.underlying4
  obtain ⟨z4, e4, _, w4⟩ := (hf 4 _ rfl).int Try.underlying2
  obtain ⟨z5, e5, _, w5⟩ := (hf 5 _ rfl).int Try.underlying29
  obtain ⟨v6, e6, L6, hv6, hb6⟩ := u64s_el (hf 6 _ rfl)
  have hF := hf 7 _ rfl
  obtain ⟨v8, e8, hr8⟩ := rgs_el (hf 8 _ rfl)
  simp [cells_int, cells_i64, cells_bool, cells_u64, cells_u64s, cells_rgs, cells_pk] at e0 e1 e2 e3 e4 e5 e6 e8 hF
  obtain ⟨_, D2, _, hg⟩ := hF.fields Try.underlying32
  obtain ⟨y0, g0, _, x0⟩ := (hg 0 _ rfl).int Try.underlying29
  obtain ⟨y1, g1, _, x1⟩ := (hg 1 _ rfl).int Try.underlying2
  obtain ⟨y2, g2, _, x2⟩ := (hg 2 _ rfl).int Try.underlying3
  obtain ⟨y3, g3, _⟩ := (hg 3 _ rfl).bool Try.underlying4
  obtain ⟨oa, ln, cp, g4⟩ := frs_el (hg 4 _ rfl)
  simp [cells_int, cells_i64, cells_bool, cells_u64, cells_frs] at g0 g1 g2 g3 g4
  subst e0 e1 e2 e3 e4 e5 e6 e8 g0 g1 g2 g3 g4
  have b5 := u64_bd w5
  have b7 := u64_bd x0
  refine ⟨⟨z0, z1, z2, z3, z4, z5.toNat, c6, y0.toNat, y1, y2, y3, oa, ln, cp, c12⟩, ?_, ?_⟩
  · rw [encAS, show ((z5.toNat : Nat) : Int) = z5 by omega, show ((y0.toNat : Nat) : Int) = y0 by omega]
  · exact ⟨i64_bd w0, i64_bd w1, i64_bd w2, i64_bd w4, by show z5.toNat < _; omega, ⟨L6, hv6, hb6⟩, by show y0.toNat < _; omega, i64_bd x1, i64_bd x2, hr8⟩
set_option maxRecDepth 100000 in
theorem asks_came {H : Type} {enc : TypeId × Value → H} {W : World} {base : Nat} {v : Value} {d : DataW H} {ps : List MemPlace}
    (hval : Value.okWide Try.prog W .any base 58 v) (h : DataW.Trod enc Try.prog W 0 (fun _ => true) true 58 v d ps) (hw : (DataW.weights Try.prog 58 d).all (· ≤ reachBytes) = true) :
    ∃ L : List AkS, Vw encAS W W.heap.size v L ∧ ∀ a ∈ L, AkSOk W W.heap.size a := by
  obtain ⟨oa, len, cap, L, rfl, h1, h2, h3, h4, h5⟩ := vw_came Try.underlying58 (by rw [cells_ask]; omega) hval h hw encAS (AkSOk W W.heap.size) ⟨0, 0, 0, false, 0, 0, .slice none 0 0, 0, 0, 0, false, none, 0, 0, .slice none 0 0⟩ (fun a => by rw [encAS_len, cells_ask]) ask_el
  exact ⟨L, h4, h5⟩

set_option maxRecDepth 100000 in
theorem sentPlays_lifted (os : Os) (started : os.Started) (H : Type) (enc : TypeId × Value → H) :
    ReturnsInHanded {} Try.checked os 6 .any (Rows.sentPlaysSpec.pre6 enc Try.prog Try.f6 [] false)
      (Rows.sentPlaysSpec.post enc Try.prog Try.f6 false true false false) := by
  refine law_frame started enc Try.func6 (by kernel_rfl) rfl ?_ (by kernel_rfl) (by kernel_rfl) ?_
    (ChangeSpec.witness6 (enc := enc) (C := Try.checked) false ⟨#[], #[.slice none 0 0], []⟩ 8 (by kernel_rfl) (by kernel_rfl) (by kernel_rfl) (by kernel_rfl)) ?_
  · intro ds hl
    rw [Try.params6] at hl
    match ds, hl with
    | [d1], _ => rfl
  · rw [Try.params6]
    intro t ht
    simp only [List.mem_cons, List.not_mem_nil, or_false] at ht
    rcases ht with rfl
    all_goals exact ⟨by kernel_rfl, of_decide_eq_true (by kernel_rfl)⟩
  · intro W base args ds ps hval hA hlt hfz hw
    rw [Try.params6] at hA hval hw
    obtain ⟨v0, d0, rfl, rfl, h0⟩ := trodAll_one hA
    have w0 := weights_one hw
    obtain ⟨L, hL, hLo⟩ := asks_came (hval 0 _ v0 rfl rfl) h0 w0
    exact plays_walk v0 L W hL hLo

set_option maxRecDepth 100000 in
theorem sentPlays_holds : Rows.SentPlaysSaid :=
  OpenClaim.holds_of_wide 6 Try.f6 rfl rfl rfl rfl rfl rfl rfl ⟨rfl, rfl, rfl, rfl, rfl⟩ rfl rfl rfl rfl rfl (by kernel_rfl) Try.func6 (by kernel_rfl)
    (of_decide_eq_true (by kernel_rfl)) (by unfold Func.isWrapper; first | (rw [if_pos (by decide +kernel)]; kernel_rfl) | (rw [if_neg (by decide +kernel)]; exact ⟨rfl, rfl⟩))
    (fun os started H enc _ => sentPlays_lifted os started H enc)
#print axioms sentPlays_holds
end Go.Proofs.Ytacfbgnbjdckiaa
