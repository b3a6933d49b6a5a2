/- DERIVED. Walk of narthexlaw10's same: the program's set and the document's list tell the same. -/
import Derived.Test.YtcnpodmifichfaaRngLaw4
import Derived.Deep.DeepCutAuto
import Derived.Deep.CutBlock
namespace Go.Proofs.Ytcnpodmifichfaa
open Go.RowKit

/-- A set and a list that hold the same ranges. -/
structure SmSt (W w : World) (b : Nat) (most : Int) (og : Option Nat) (xs : List Rg) (v : Value) (oh : Option Nat) : Prop where
  set : SetAt w b most og xs
  sl : Sl w v oh xs
  below : Below W.heap.size W w
theorem SmSt.step {W w w' : World} {b : Nat} {most : Int} {og : Option Nat} {xs : List Rg} {v : Value} {oh : Option Nat} (h : SmSt W w b most og xs v oh) (hb : Below w.heap.size w w') : SmSt W w' b most og xs v oh :=
  ⟨h.set.below hb, h.sl.below hb, below_call h.below h.below.size hb⟩
theorem SmSt.alloc {W w : World} {b : Nat} {most : Int} {og : Option Nat} {xs : List Rg} {v : Value} {oh : Option Nat} (h : SmSt W w b most og xs v oh) (o : Obj) : SmSt W (w.alloc o) b most og xs v oh :=
  h.step ((Below.refl _ _).alloc (Nat.le_refl _) _)
theorem SmSt.drewN {W w : World} {b : Nat} {most : Int} {og : Option Nat} {xs : List Rg} {v : Value} {oh : Option Nat} (h : SmSt W w b most og xs v oh) (n : Nat) : SmSt W (w.drewN n) b most og xs v oh :=
  h.step (below_drewN (Below.refl _ _) n)
theorem rgap_l (v : Value) (og : Option Nat) (xs : List Rg) (f t : Nat) (w : World) (h : Sl w v og xs) (hf : f < 18446744073709551616) (ht : t < 18446744073709551616) (hx : Norm xs) :
    Calls Try.prog 37 #[v, .int .u64 f, .int .u64 t] w
      fun e w' => e = .returned (.tuple #[.agg #[.int .u64 (gapL xs f t).1.1, .int .u64 (gapL xs f t).1.2], .bool (gapL xs f t).2]) ∧ Below w.heap.size w w' := by
  rw [← gapR_is xs f t hx]
  exact rgap_any v og xs f t w h hf ht hx
theorem rgap_at (v : Value) (og : Option Nat) (xs : List Rg) (f t : Nat) (w : World) (h : Sl w v og xs) (hf : f < 18446744073709551616) (ht : t < 18446744073709551616) (hx : Norm xs) {gl : Rg × Bool} (hg : gapL xs f t = gl) :
    Calls Try.prog 37 #[v, .int .u64 f, .int .u64 t] w
      fun e w' => e = .returned (.tuple #[.agg #[.int .u64 gl.1.1, .int .u64 gl.1.2], .bool gl.2]) ∧ Below w.heap.size w w' := by
  subst hg
  exact rgap_l v og xs f t w h hf ht hx
def Two (w : World) (c : Nat) (r : Rg) : Prop := w.heap[c]? = some (.cells #[.int .u64 r.1, .int .u64 r.2] 34 (0, 0))
theorem Two.below {w w' : World} {c : Nat} {r : Rg} (h : Two w c r) (hb : Below w.heap.size w w') : Two w' c r := by
  unfold Two at *
  rw [hb.block _ (heap_lt h)]
  exact h
theorem topL_at {xs : List Rg} {r : Rg} (h : xs[xs.length - 1]? = some r) : topL xs = r.2 - 1 ∧ someL xs = true ∧ 0 < xs.length := by
  rcases List.eq_nil_or_concat xs with rfl | ⟨ys, r', rfl⟩
  · simp at h
  · simp at h
    subst h
    exact ⟨by simp [topL], by cases ys <;> rfl, by simp⟩

set_option maxRecDepth 100000 in
set_option maxHeartbeats 2000000 in
theorem same_any (b : Nat) (most : Int) (og : Option Nat) (xs : List Rg) (v : Value) (oh : Option Nat) (n m : Nat) (w : World) (h : SetAt w b most og xs) (h' : Sl w v oh xs) (hx : Norm xs) (hn : n < 18446744073709551616) (ht : m < 18446744073709551616) (hl : xs.length * 16 ≤ 140737488355328) :
    Calls Try.prog 29 #[.pointer (some ⟨b, 0, none⟩), v, .int .u64 n, .int .u64 m] w fun e w' => e = .returned (.bool true) ∧ Below w.heap.size w w' := by
  have H0 := Lib.hid (show SmSt w w b most og xs v oh from ⟨h, h', Below.refl _ _⟩)
  have HX := Lib.hid hx
  obtain ⟨oa, cap, rfl, hcap, hcap2⟩ := h'.shape
  clear h h' hx hcap2
  go_enter Try.func29, Try.ntmps29
  go_wp2_with fail
  refine (gap_any b most og xs n m _ (by exact H0.out.set) hn ht HX.out).mono ?_
  rintro e w1 ⟨rfl, hb1⟩
  have H1 := Lib.hid (H0.out.step hb1)
  clear hb1 H0
  generalize hg : gapL xs n m = gl at *
  have HG := Lib.hid hg
  clear hg
  go_wp2_with fail
  refine (rgap_at _ oh xs n m _ (by exact (H1.out.alloc _).sl) hn ht HX.out HG.out).mono ?_
  rintro e w2 ⟨rfl, hb2⟩
  have H2 := Lib.hid ((H1.out.alloc _).step hb2)
  have T2 := Lib.hid (show Two w2 w1.heap.size gl.1 from Two.below (alloc_at w1 _) hb2)
  have L2 := Lib.hid (show w1.heap.size + 1 ≤ w2.heap.size by have := hb2.size; simpa using this)
  clear hb2 H1
  go_wp2_with fail
  refine (largest_q b most og xs _ (by exact (H2.out.alloc _).set) HX.out).mono ?_
  rintro e w' ⟨rfl, q, rfl⟩
  obtain ⟨w3, hw3⟩ : ∃ w3, w3 = (w2.alloc (.cells #[.int .u64 gl.1.1, .int .u64 gl.1.2] 34)).drewN q := ⟨_, rfl⟩
  have H3 := Lib.hid (show SmSt w w3 b most og xs (.slice oa xs.length cap) oh from hw3 ▸ (H2.out.alloc _).drewN q)
  have T3 := Lib.hid (show Two w3 w1.heap.size gl.1 from hw3 ▸ Two.below T2.out (below_drewN ((Below.refl _ _).alloc (Nat.le_refl _) _) q))
  have U3 := Lib.hid (show Two w3 w2.heap.size gl.1 from hw3 ▸ alloc_at w2 _)
  have L3 := L2.out
  rw [← hw3]
  clear hw3 H2 T2 L2
  generalize w1.heap.size = c1 at *
  generalize w2.heap.size = c2 at *
  have hsh : (∀ r, xs[xs.length - 1]? = some r → topL xs = r.2 - 1 ∧ someL xs = true ∧ 0 < xs.length) ∧ (xs.length = 0 → topL xs = 0 ∧ someL xs = false) := ⟨fun r hr => topL_at hr, fun h => by
    have := List.eq_nil_of_length_eq_zero h
    subst this
    exact ⟨rfl, rfl⟩⟩
  have HH := Lib.hid hsh
  clear hsh
  generalize hlen : xs.length = len at *
  have HN := Lib.hid hlen
  clear hlen
  go_upto_if 37 with fail
  go_cut [15] (fun s wx => s = .int .u64 (topL xs) ∧ someL xs = decide (0 < (len : Int)) ∧ ∃ q, wx = w3.drewN q)
  case first =>
    rcases Nat.eq_zero_or_pos len with hz | hz
    · have HT := Lib.hid (HH.out.2 hz)
      subst hz
      go_wp2_with fail
      go_meet
      case rel => exact ⟨by rw [HT.out.1]; rfl, by rw [HT.out.2]; rfl, 0, rfl⟩
    · obtain ⟨r, hr⟩ : ∃ r, xs[len - 1]? = some r := ⟨_, List.getElem?_eq_getElem (by rw [HN.out]; omega)⟩
      have HT := Lib.hid (HH.out.1 r hr)
      obtain ⟨hr1, hr2⟩ := HX.out.at hr
      obtain ⟨g, hog, rfl, hgl, d2, d3⟩ := H3.out.sl.atS hr
      clear hog hr
      obtain ⟨k, hk⟩ : ∃ k : Nat, len = k + 1 := ⟨len - 1, by omega⟩
      subst hk
      simp only [Nat.add_sub_cancel] at d2 d3
      have he : ((r.2 : Int) - 1) = ((r.2 - 1 : Nat) : Int) := by omega
      have hw : IntKind.u64.wrap ((r.2 : Int) - 1) = ((r.2 - 1 : Nat) : Int) := by rw [he]; exact IntWalk.u64_in _ (by omega)
      go_wp2_with fail
      go_meet
      case rel => exact ⟨by rw [HT.out.1], by rw [HT.out.2.1]; simp; try omega, 0, rfl⟩
  case rest =>
    obtain ⟨rfl, hsm, q3, rfl⟩ := hcut
    have HSM := Lib.hid hsm
    clear hsm HH
    go_wp2_with fail
    refine (all_any b most og xs _ (by exact (H3.out.drewN q3).set) (by rw [HN.out]; exact hl)).mono ?_
    rintro e w4 ⟨va, oga, rfl, hsl, hnew, hb⟩
    have H4 := Lib.hid ((H3.out.drewN q3).step hb)
    have S4 := Lib.hid hsl
    have T4 := Lib.hid (Two.below T3.out (below_call (below_drewN (Below.refl _ _) q3) (Nat.le_refl _) hb))
    have U4 := Lib.hid (Two.below U3.out (below_call (below_drewN (Below.refl _ _) q3) (Nat.le_refl _) hb))
    clear hsl hnew hb H3 T3 U3
    go_wp2_with fail
    refine (rsame_q va _ oga oh xs _ (by exact S4.out) (by exact H4.out.sl)).mono ?_
    rintro e w' ⟨rfl, n1, rfl⟩
    clear S4
    go_wp2_with fail
    refine (slen_q b most og xs _ (by exact (H4.out.drewN n1).set)).mono ?_
    rintro e w' ⟨rfl, n2, rfl⟩
    rw [HN.out]
    go_wp2_with fail
    refine (count_any b most og xs _ (by exact (H4.out.drewN (n1 + n2)).set) HX.out).mono ?_
    rintro e w5 ⟨rfl, hb⟩
    have H5 := Lib.hid ((H4.out.drewN (n1 + n2)).step hb)
    have T5 := Lib.hid (Two.below T4.out (below_call (below_drewN (Below.refl _ _) (n1 + n2)) (Nat.le_refl _) hb))
    have U5 := Lib.hid (Two.below U4.out (below_call (below_drewN (Below.refl _ _) (n1 + n2)) (Nat.le_refl _) hb))
    clear hb H4 T4 U4
    go_wp2_with fail
    refine (rcount_q _ oh xs _ (by exact H5.out.sl) HX.out).mono ?_
    rintro e w' ⟨rfl, n3, rfl⟩
    go_wp2_with fail
    refine (shas_any b most og xs n _ (by exact (H5.out.drewN n3).set)).mono ?_
    rintro e w6 ⟨rfl, hb⟩
    have H6 := Lib.hid ((H5.out.drewN n3).step hb)
    have T6 := Lib.hid (Two.below T5.out (below_call (below_drewN (Below.refl _ _) n3) (Nat.le_refl _) hb))
    have U6 := Lib.hid (Two.below U5.out (below_call (below_drewN (Below.refl _ _) n3) (Nat.le_refl _) hb))
    clear hb H5 T5 U5
    go_wp2_with fail
    refine (rhas_q _ oh xs n _ (by exact H6.out.sl)).mono ?_
    rintro e w' ⟨rfl, n4, rfl⟩
    have d0 := cell_at T6.out 0
    have d1 := cell_at T6.out 1
    have e0 := cell_at U6.out 0
    have e1 := cell_at U6.out 1
    simp at d0 d1 e0 e1
    go_wp2
    go_ret
    exact ⟨fn_end (by rw [HSM.out]; simp), below_drewN H6.out.below _⟩
end Go.Proofs.Ytcnpodmifichfaa
