/- DERIVED. Walks of narthexlaw10's known and near. -/
import Derived.Test.YtcnpodmifichfaaRngPlay
namespace Go.Proofs.Ytcnpodmifichfaa
open Go.RowKit

set_option maxRecDepth 100000 in
set_option maxHeartbeats 1000000 in
theorem known_any (w : World) : Calls Try.prog 15 #[] w fun e w' => e = .returned (.bool true) ∧ Below w.heap.size w w' := by
  go_enter Try.func15, Try.ntmps15
  go_wp2_with fail
  refine (snew_any 4 _).mono ?_
  rintro e w1 ⟨b, rfl, hb1, hs, hb⟩
  have H1 := Lib.hid (show Duo w w1 b 4 none [] (.slice none 0 0) none [] from ⟨hs, Sl.nil _, hb, hb1, by simp, by simp⟩)
  clear hs hb hb1
  go_wp2_with fail
  refine (add_any b 4 none [] 1 3 _ (by exact H1.out.set) (by decide) (by decide) (by decide)).mono ?_
  rw [show (addL 4 [] 1 3) = [(1, 3)] from by decide]
  rintro e w2 ⟨rfl, ht⟩
  obtain ⟨og2, hd⟩ := H1.out.turned ht
  have H2 := Lib.hid (show Duo w w2 b 4 og2 [(1, 3)] (.slice none 0 0) none [] from hd)
  clear ht hd H1
  rw [show (if 1 < 3 ∧ 3 ≤ 4611686018427387904 then ([(1, 3)] : List Rg).any (meetP 1 3) else false) = true from by decide]
  go_wp2_with fail
  refine (add_any b 4 og2 [(1, 3)] 3 5 _ (by exact H2.out.set) (by decide) (by decide) (by decide)).mono ?_
  rw [show (addL 4 [(1, 3)] 3 5) = [(1, 5)] from by decide]
  rintro e w3 ⟨rfl, ht⟩
  obtain ⟨og3, hd⟩ := H2.out.turned ht
  have H3 := Lib.hid (show Duo w w3 b 4 og3 [(1, 5)] (.slice none 0 0) none [] from hd)
  clear ht hd H2
  rw [show (if 3 < 5 ∧ 5 ≤ 4611686018427387904 then ([(1, 5)] : List Rg).any (meetP 3 5) else false) = true from by decide]
  go_wp2_with fail
  refine (add_any b 4 og3 [(1, 5)] 5 5 _ (by exact H3.out.set) (by decide) (by decide) (by decide)).mono ?_
  rintro e w4 ⟨rfl, ht⟩
  obtain ⟨og4, hd⟩ := H3.out.turned ht
  have H4 := Lib.hid (show Duo w w4 b 4 og4 [(1, 5)] (.slice none 0 0) none [] from hd)
  clear ht hd H3
  rw [show (if 5 < 5 ∧ 5 ≤ 4611686018427387904 then (addL 4 [(1, 5)] 5 5).any (meetP 5 5) else false) = false from by decide]
  go_wp2_with fail
  refine (all_any b 4 og4 [(1, 5)] _ (by exact H4.out.set) (by decide)).mono ?_
  rintro e w5 ⟨va, oga, rfl, hsl, hnew, hb⟩
  have H5 := Lib.hid (H4.out.later hb)
  obtain ⟨oa, cap, rfl, hc1, hc2⟩ := hsl.shape
  obtain ⟨g, hog, rfl, hgl, d0, d1⟩ := hsl.atS (i := 0) (r := (1, 5)) rfl
  simp only [List.length_cons, List.length_nil] at hc1
  have S5 := Lib.hid hsl
  clear hsl hnew hb H4 hog
  simp only [Nat.zero_mul, Nat.zero_add] at d0 d1
  simp only [List.length_cons, List.length_nil, Nat.zero_add]
  go_wp2_with fail
  refine (shas_any b 4 og4 [(1, 5)] 4 _ (by exact H5.out.set)).mono ?_
  rintro e w6 ⟨rfl, hb⟩
  have H6 := Lib.hid (H5.out.later hb)
  clear hb d0 d1 S5 H5
  rw [show ([(1, 5)] : List Rg).any (hasP 4) = true from by decide]
  go_wp2_with fail
  refine (shas_any b 4 og4 [(1, 5)] 5 _ (by exact H6.out.set)).mono ?_
  rintro e w7 ⟨rfl, hb⟩
  have H7 := Lib.hid (H6.out.later hb)
  clear hb H6
  rw [show ([(1, 5)] : List Rg).any (hasP 5) = false from by decide]
  go_wp2_with fail
  go_ret
  exact ⟨rfl, H7.out.below⟩
end Go.Proofs.Ytcnpodmifichfaa
