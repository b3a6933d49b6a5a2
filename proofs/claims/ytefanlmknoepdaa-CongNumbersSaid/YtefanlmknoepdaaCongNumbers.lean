/- DERIVED. Walk of narthexlaw13's CongNumbers. -/
import Derived.Test.YtefanlmknoepdaaCongTells
import Derived.Test.YtefanlmknoepdaaCongGrows
import Derived.Test.YtefanlmknoepdaaCongBounds
import Derived.Deep.RegionLaw
import Derived.Deep.AppendLies
namespace Go.Proofs.Ytefanlmknoepdaa
open Go.RowKit

def t11 (k : Nat) : Int := [0, 0, 0, 1, 0, 0, 0, 0, 2, 0, 1].getD k 0
def t6 (k : Nat) : Int := [512, 513, 1, 0, -1, 1073741824].getD k 0
def cell11 : Array Value := #[.int .i64 0, .int .i64 0, .int .i64 0, .int .i64 1, .int .i64 0, .int .i64 0, .int .i64 0, .int .i64 0, .int .i64 2, .int .i64 0, .int .i64 1]
def numG (i j : Nat) : Int :=
  match j with
  | 0 => t11 (i % 11)
  | 1 => t6 (i % 6)
  | 2 => i - 3
  | _ => i + 2
theorem t11_at (m : Nat) (h : m < ([.int .i64 0, .int .i64 0, .int .i64 0, .int .i64 1, .int .i64 0, .int .i64 0, .int .i64 0, .int .i64 0, .int .i64 2, .int .i64 0, .int .i64 1] : List Value).length) : ([.int .i64 0, .int .i64 0, .int .i64 0, .int .i64 1, .int .i64 0, .int .i64 0, .int .i64 0, .int .i64 0, .int .i64 2, .int .i64 0, .int .i64 1] : List Value)[m]'h = .int .i64 (t11 m) := by
  simp at h
  rcases (by omega : m = 0 ∨ m = 1 ∨ m = 2 ∨ m = 3 ∨ m = 4 ∨ m = 5 ∨ m = 6 ∨ m = 7 ∨ m = 8 ∨ m = 9 ∨ m = 10) with rfl | rfl | rfl | rfl | rfl | rfl | rfl | rfl | rfl | rfl | rfl <;> rfl
theorem t6_at (m : Nat) (h : m < ([.int .i64 512, .int .i64 513, .int .i64 1, .int .i64 0, .int .i64 (-1), .int .i64 1073741824] : List Value).length) : ([.int .i64 512, .int .i64 513, .int .i64 1, .int .i64 0, .int .i64 (-1), .int .i64 1073741824] : List Value)[m]'h = .int .i64 (t6 m) := by
  simp at h
  rcases (by omega : m = 0 ∨ m = 1 ∨ m = 2 ∨ m = 3 ∨ m = 4 ∨ m = 5) with rfl | rfl | rfl | rfl | rfl | rfl <;> rfl

theorem t11_bd (k : Nat) : I64 (t11 k) := by
  unfold t11 I64
  rcases Nat.lt_or_ge k 11 with h | h
  · rcases (by omega : k = 0 ∨ k = 1 ∨ k = 2 ∨ k = 3 ∨ k = 4 ∨ k = 5 ∨ k = 6 ∨ k = 7 ∨ k = 8 ∨ k = 9 ∨ k = 10) with rfl | rfl | rfl | rfl | rfl | rfl | rfl | rfl | rfl | rfl | rfl <;> simp
  · rw [List.getD_eq_getElem?_getD, List.getElem?_eq_none (by simpa using h)]; simp
theorem t6_bd (k : Nat) : I64 (t6 k) := by
  unfold t6 I64
  rcases Nat.lt_or_ge k 6 with h | h
  · rcases (by omega : k = 0 ∨ k = 1 ∨ k = 2 ∨ k = 3 ∨ k = 4 ∨ k = 5) with rfl | rfl | rfl | rfl | rfl | rfl <;> simp
  · rw [List.getD_eq_getElem?_getD, List.getElem?_eq_none (by simpa using h)]; simp
theorem alloc_at3 (w : World) (A B C : Obj) : (((w.alloc A).alloc B).alloc C).drew.heap[w.heap.size + 1 + 1]? = some C := by
  have := alloc_at ((w.alloc A).alloc B) C
  show ((((w.alloc A).alloc B).alloc C)).heap[w.heap.size + 1 + 1]? = some C
  simpa using this
theorem four_one (a b c d : Int) : ∀ u ∈ [Value.int .i64 a, .int .i64 b, .int .i64 c, .int .i64 d], u.oneCell' = true := by
  intro u hu
  simp at hu
  rcases hu with rfl | rfl | rfl | rfl <;> rfl

set_option maxRecDepth 100000 in
set_option maxHeartbeats 1000000 in
theorem numbers_walk (w : World) :
    Calls Try.prog 4 #[] w fun e w' => e = .returned (.bool true) ∧ Below w.heap.size w w' := by
  obtain ⟨i0, hi, hz0, hz1, hz2⟩ := info_parts infoAsk
  go_enter Try.func4, Try.ntmps4
  go_wp2_with fail
  go_loopw [1, 2] (fun v i wr => ∃ (k : Nat), i = .int .i64 k ∧ k ≤ 60 ∧ wr.ownsRow w.heap.size 33 4 v k (flat4 numG k) ∧ Below w.heap.size w wr) (fun _ i _ => 60 - (intOf i).toNat)
  case atStart => exact ⟨0, rfl, by omega, World.ownsRow_nil _ _ _ _, Below.refl _ _⟩
  case round =>
    obtain ⟨k, rfl, hk, hown, hb⟩ := hrel
    have HO := Lib.hid hown
    have HB := Lib.hid hb
    clear hown hb
    by_cases hlt : k < 60
    · obtain ⟨m, hm, hme, hm1, hm2, hm3⟩ : ∃ m : Nat, (k : Int).tmod 11 = (m : Int) ∧ m = k % 11 ∧ m < 11 ∧ (0 : Int) ≤ (m : Int) ∧ (m : Int) < 11 := ⟨k % 11, by rw [Int.tmod_eq_emod_of_nonneg (by omega)]; omega, rfl, by omega, by omega, by omega⟩
      obtain ⟨n, hn, hne, hn1, hn2, hn3⟩ : ∃ m : Nat, (k : Int).tmod 6 = (m : Int) ∧ m = k % 6 ∧ m < 6 ∧ (0 : Int) ≤ (m : Int) ∧ (m : Int) < 6 := ⟨k % 6, by rw [Int.tmod_eq_emod_of_nonneg (by omega)]; omega, rfl, by omega, by omega, by omega⟩
      have Hme := Lib.hid hme
      have Hne := Lib.hid hne
      clear hme hne
      have h11 := t11_at m
      have h6 := t6_at n
      have w1 : IntKind.i64.wrap ((k : Int) - 3) = (k : Int) - 3 := IntWalk.i64_in _ (by omega)
      have w2 : IntKind.i64.wrap ((k : Int) + 2) = (k : Int) + 2 := IntWalk.i64_in _ (by omega)
      go_upto_region 5 with fail
      go_region_law (refine step_append_lies _ rfl _ _ 31 rfl w.heap.size 33 i0 _ 4 32 Try.underlying31 hi hz0 hz1 hz2 rfl (by decide) _ _ _ rfl (((HO.out.alloc _).alloc _).alloc _) ⟨wr.heap.size + 1 + 1, 0, none⟩ 1 1 [.int .i64 (t11 m), .int .i64 (t6 n), .int .i64 (k - 3), .int .i64 (k + 2)] rfl rfl (cells_new (alloc_at3 wr _ _ _) rfl) (four_one _ _ _ _) (by omega) (by unfold maxLen; omega) (by omega) (by have := HB.out.size; simp; omega) _ rfl ?_; intro g cap wx hown1 hgrow1 hat1 hlt1)
      all_goals (have HO1 := Lib.hid hown1)
      all_goals (have HB1 := Lib.hid ((((((HB.out.alloc HB.out.size _).alloc (by have := HB.out.size; simp; omega) _).alloc (by have := HB.out.size; simp; omega) _).drew)).grown hgrow1 (by have := HB.out.size; simp; omega) (fun j hj => (HO.out.lt j hj).1)))
      all_goals clear hown1 hgrow1 hat1 hlt1 h11 h6 hm hn w1 w2
      all_goals go_wp2
      all_goals go_roundw
      all_goals first
        | (case rel => exact ⟨k + 1, by go_num, by omega, by obtain rfl := Hme.out; obtain rfl := Hne.out; exact HO1.out, HB1.out⟩)
        | skip
      all_goals (simp [intOf]; omega)
    · obtain ⟨oa2, cap2, hv2, ha2⟩ := asks_own HO.out (by
        intro i hi j hj
        rcases (by omega : j = 0 ∨ j = 1 ∨ j = 2 ∨ j = 3) with rfl | rfl | rfl | rfl
        · exact t11_bd _
        · exact t6_bd _
        · constructor <;> (simp only [numG]; omega)
        · constructor <;> (simp only [numG]; omega))
      subst hv2
      have HA2 := Lib.hid ha2
      clear ha2
      go_wp2_with fail
      refine (new_x _).mono ?_
      rintro e w1 ⟨b, rfl, hb1, hw1, hB1⟩
      have HL := Lib.hid hb1
      have HA3 := Lib.hid ((HA2.out.below hB1))
      have HH0 := Lib.hid (show One wr w1 wr.heap.size b 5120 1073741824 (-1) from ⟨by omega, by omega, hw1, hB1⟩)
      clear hw1 hB1 hb1
      go_wp2_with fail
      go_loopw [4] (fun i wq => ∃ (j : Nat), i = .int .i64 j ∧ j ≤ 3000 ∧ One wr wq wr.heap.size b (5120 + 512 * j) 1073741824 (-1)) (fun i _ => 3000 - (intOf i).toNat)
      case atStart => exact ⟨0, rfl, by omega, HH0.out⟩
      case round =>
        rename_i wq _
        obtain ⟨j, rfl, hj, hh⟩ := hrel
        have HH := Lib.hid hh
        clear hh HH0
        by_cases hlt2 : j < 3000
        · go_wp2_with fail
          refine (acked_any _ _ _ _ _ _ _ (by exact HH.out.2.2.1) (by omega) (by omega)).mono ?_
          rw [ackS_slow (by omega) (by omega) (by omega) (by omega) (by omega)]
          rintro e w3 ⟨rfl, hw3, hu3⟩
          have H3 := Lib.hid (One.next HH.out HL.out hw3 hu3 (by omega) (by omega))
          clear hw3 hu3 HH
          go_wp2
          go_roundw
          case rel => exact ⟨j + 1, by go_num, by omega, by rw [show (5120 : Int) + 512 * ((j + 1 : Nat) : Int) = 5120 + 512 * j + 512 from by omega]; exact H3.out⟩
          case measure => simp [intOf]; omega
        · obtain rfl : j = 3000 := by omega
          go_wp2_with fail
          refine (size_q _ _ _ _ _ (by exact HH.out.2.2.1)).mono ?_
          rw [show (5120 : Int) + 512 * ((3000 : Nat) : Int) = 1541120 from by omega]
          rintro e w' ⟨rfl, q, rfl⟩
          go_wp2_with fail
          refine (play_walk _ _ _ _ _ (by omega) (by exact (HA2.out.below HH.out.2.2.2).mono HH.out.2.2.2.size)).mono ?_
          rintro e w5 ⟨rfl, hb5⟩
          have HB5 := Lib.hid (below_call (below_drewN (below_call HB.out HB.out.size HH.out.2.2.2) q) (Nat.le_trans HB.out.size HH.out.2.2.2.size) hb5)
          clear hb5 HA2 HA3 HH HB HO
          go_wp2_with (go_at_call 13; refine (known_any _).mono ?_; rintro e w' ⟨rfl, hk⟩)
          go_ret
          exact ⟨rfl, below_call HB5.out HB5.out.size ‹_›⟩
end Go.Proofs.Ytefanlmknoepdaa
