/- DERIVED. Walk of narthexlaw13's CongGrows. -/
import Derived.Test.YtefanlmknoepdaaBook
import Derived.Test.YtefanlmknoepdaaCongKnown
namespace Go.Proofs.Ytefanlmknoepdaa
open Go.RowKit

theorem ackS_slow {s t c z m : Int} (h1 : c < m) (h2 : s < t) (h3 : 0 ≤ z) (h4 : z ≤ 512) (h5 : s + z ≤ 1073741824) : ackS s t c z m = s + z := by
  unfold ackS clampD
  repeat' split
  all_goals omega
theorem ackS_old {s t c z m : Int} (h1 : m ≤ c) : ackS s t c z m = s := by simp [ackS, h1]
theorem ackS_fast {s t c m : Int} (h1 : c < m) (h2 : t ≤ s) (h5 : s + 262144 / s ≤ 1073741824) : ackS s t c 512 m = s + 262144 / s := by
  unfold ackS
  rw [if_neg (by omega)]
  rw [if_neg (show ¬ s < t by omega)]
  show (if 1073741824 < s + 512 * 512 / s then _ else s + 512 * 512 / s) = _
  rw [show (512 * 512 : Int) = 262144 from rfl, if_neg (by omega)]

theorem div_le_of {s : Int} (h1 : 2560 ≤ s) (h2 : s ≤ 16000) : 1 ≤ 262144 / s ∧ 262144 / s ≤ 102 ∧ 262144 / s * s ≤ 262144 := by
  refine ⟨Int.le_ediv_of_mul_le (by omega) (by omega), ?_, ?_⟩
  · have : (262144 : Int) / s < 103 := Int.ediv_lt_of_lt_mul (by omega) (by omega)
    omega
  · exact Int.ediv_mul_le _ (by omega)
theorem div_anti {s h : Int} (h1 : 0 < h) (h2 : h ≤ s) : 262144 / s ≤ 262144 / h := by
  apply Int.le_ediv_of_mul_le h1
  have a : 262144 / s * s ≤ 262144 := Int.ediv_mul_le _ (by omega)
  have b : 0 ≤ 262144 / s := Int.ediv_nonneg (by omega) (by omega)
  have c : 262144 / s * h ≤ 262144 / s * s := Int.mul_le_mul_of_nonneg_left h2 b
  omega
theorem grow_bd {h d : Int} {j : Nat} (h1 : 512 * (j : Int) ≤ h + 511) (h2 : d * h ≤ 262144) (h3 : 0 ≤ d) (h4 : d ≤ 102) : (j : Int) * d ≤ 613 := by
  have a : 512 * (j : Int) * d ≤ (h + 511) * d := Int.mul_le_mul_of_nonneg_right h1 h3
  rw [Int.add_mul, Int.mul_comm h d, Int.mul_assoc] at a
  omega
/-- What the last loop keeps: j rounds, each of which raised the window by something, by d at most. -/
def Grew (T : TypeId) (W0 w : World) (b : Nat) (h W : Int) (j : Nat) (s : Int) : Prop :=
  512 * (j : Int) ≤ h + 511 ∧ h + j ≤ s ∧ s ≤ h + j * (262144 / h) ∧ Win T w b s h W ∧ Below b W0 w
theorem Grew.step {T : TypeId} {W0 w w2 : World} {b : Nat} {h W : Int} {j : Nat} {s e : Int} (g : Grew T W0 w b h W j s) (hj : 512 * (j : Int) < h) (h0 : 2560 ≤ h) (he : e = 262144 / s) (hs : s ≤ 16000)
    (hw : Win T w2 b (s + e) h W) (hB : Below b W0 w2) : Grew T W0 w2 b h W (j + 1) (s + e) := by
  obtain ⟨g1, g2, g3, g4, g5⟩ := g
  have a := div_le_of (s := s) (by omega) hs
  have c := div_anti (s := s) (h := h) (by omega) (by omega)
  refine ⟨by omega, by omega, ?_, hw, hB⟩
  rw [show ((j + 1 : Nat) : Int) = (j : Int) + 1 from rfl, Int.add_mul]
  omega
theorem Grew.drewN {T : TypeId} {W0 w : World} {b : Nat} {h W : Int} {j : Nat} {s : Int} (g : Grew T W0 w b h W j s) (n : Nat) : Grew T W0 (w.drewN n) b h W j s :=
  ⟨g.1, g.2.1, g.2.2.1, g.2.2.2.1, below_drewN g.2.2.2.2 n⟩
theorem Grew.bound {T : TypeId} {W0 w : World} {b : Nat} {h W : Int} {j : Nat} {s : Int} (g : Grew T W0 w b h W j s) (h0 : 2560 ≤ h) (h5 : h ≤ 15360) : h + j ≤ s ∧ s ≤ h + 613 := by
  obtain ⟨g1, g2, g3, g4, g5⟩ := g
  have a := div_le_of (s := h) h0 (by omega)
  have c := grow_bd g1 a.2.2 (by omega) a.2.1
  exact ⟨g2, by omega⟩

set_option maxHeartbeats 1000000 in
theorem grows_walk (oa : Option Addr) (len cap : Nat) (at_ : Int) (f : Nat → Int) (w : World) (hlen : len ≤ 9223372036854775807)
    (hc : ∀ i, i < len → ∃ b off, oa = some ⟨b, off, none⟩ ∧ b < w.heap.size ∧ w.cell? ⟨b, off + i, none⟩ = some (.int .i64 (f i)) ∧ -9223372036854775808 ≤ f i ∧ f i ≤ 9223372036854775807)
    (ha : -9223372036854775808 ≤ at_) (ha2 : at_ ≤ 9223372036854775807) :
    Calls Try.prog 3 #[.slice oa len cap, .int .i64 at_] w fun e w' => e = .returned (.bool true) ∧ Below w.heap.size w w' := by
  have HC := Lib.hid hc
  clear hc
  obtain ⟨hW1, hW2⟩ := withinS_bd at_ 100 1000 (by omega)
  generalize hWe : withinS at_ 100 1000 = W
  rw [hWe] at hW1 hW2
  have HWe := Lib.hid hWe
  clear hWe
  go_enter Try.func3, Try.ntmps3
  go_wp2_with fail
  refine (new_any _).mono ?_
  rintro e w1 ⟨rfl, hw1⟩
  have hW : Win 36 w1 w.heap.size 5120 1073741824 (-1) := by subst hw1; exact alloc_at _ _
  have hB : Below w.heap.size w w1 := by subst hw1; exact (Below.refl _ _).alloc (Nat.le_refl _) _
  have HW := Lib.hid hW
  have HB := Lib.hid hB
  clear hw1 hB hW
  generalize hbs : w.heap.size = b at *
  have HS := Lib.hid hbs
  clear hbs
  go_wp2_with fail
  go_loopw [6, 7] (fun s i wr => ∃ (k : Nat) (z : Int), i = .int .i64 k ∧ s = .int .i64 z ∧ k ≤ 50 ∧ 5120 ≤ z ∧ z ≤ 5120 + 512 * k ∧ Win 36 wr b z 1073741824 (-1) ∧ Below b w wr) (fun _ i _ => 50 - (intOf i).toNat)
  case atStart => exact ⟨0, 5120, rfl, rfl, by omega, by omega, by omega, HW.out, HB.out⟩
  case round =>
    obtain ⟨k, z, rfl, rfl, hk, hz1, hz2, hw, hb⟩ := hrel
    have Hw := Lib.hid hw
    have Hb := Lib.hid hb
    clear hw hb HW HB
    by_cases hlt : k < len ∧ k < 50
    · obtain ⟨h1, h2⟩ := hlt
      obtain ⟨c, off, rfl, hcb, hcell, hf1, hf2⟩ := HC.out k h1
      have hcell' : wr.cell? ⟨c, off + k, none⟩ = some (.int .i64 (f k)) := by rw [Hb.out.cell hcb]; exact hcell
      clear hcell HC
      go_wp2_with (go_at_call 8; refine (within_any _ _ _ _ (by omega) (by omega) (by omega) (by omega) (by omega)).mono ?_; rintro e w' ⟨rfl, rfl⟩)
      have hn := withinS_bd (f k) 0 512 (by omega)
      obtain ⟨hn1, hn2⟩ := hn
      generalize withinS (f k) 0 512 = n at *
      refine (acked_any _ _ _ _ _ _ _ Hw.out (by omega) (by omega)).mono ?_
      rw [ackS_slow (by omega) (by omega) (by omega) (by omega) (by omega)]
      rintro e w2 ⟨rfl, hw2, hu2⟩
      have Hb2 := Lib.hid (Upd.onto Hb.out hu2 (Nat.le_of_lt (heap_lt Hw.out)) (by intro k h1 h2; omega))
      have Hw2 := Lib.hid hw2
      clear hw2 hu2 hcell' Hw Hb
      go_wp2_with (go_at_call 10; refine (size_q _ _ _ _ _ (by exact Hw2.out)).mono ?_; rintro e w' ⟨rfl, q, rfl⟩)
      go_roundw
      case rel => exact ⟨k + 1, z + n, by go_num, rfl, by omega, by omega, by omega, Hw2.out, below_drewN Hb2.out _⟩
      case measure => simp [intOf]; omega
    · clear HC
      have hd : (decide ((k : Int) < (len : Int)) && decide ((k : Int) < 50)) = false := by simp; omega
      rcases (by omega : len ≤ k ∨ (k < len ∧ 50 ≤ k)) with hx | ⟨hx1, hx2⟩
      all_goals
        go_wp2_with fail
        refine (within_any _ _ _ _ (by omega) (by omega) (by omega) (by omega) (by omega)).mono ?_
        rw [HWe.out]
        rintro e w' ⟨rfl, rfl⟩
        go_wp2_with fail
        refine (lost_any _ _ _ _ _ _ _ (by exact Hw.out) (by omega) (by omega)).mono ?_
        rw [show lostS z (-1) (W - 1) = z / 2 from by unfold lostS; rw [if_neg (by omega), if_neg (by omega)], if_neg (by omega), if_neg (by omega)]
        rintro e w2 ⟨rfl, hw2, hu2⟩
        have Hb2 := Lib.hid (Upd.onto Hb.out hu2 (Nat.le_of_lt (heap_lt Hw.out)) (by intro k h1 h2; omega))
        have Hw2 := Lib.hid hw2
        clear hw2 hu2 Hw Hb
        go_wp2_with fail
        refine (size_q _ _ _ _ _ (by exact Hw2.out)).mono ?_
        rintro e w' ⟨rfl, q, rfl⟩
        go_wp2_with fail
        refine (acked_any _ _ _ _ _ _ _ (by exact Hw2.out) (by omega) (by omega)).mono ?_
        rw [ackS_old (Int.le_refl _)]
        rintro e w3 ⟨rfl, hw3, hu3⟩
        have Hb3 := Lib.hid (Upd.onto (below_drewN Hb2.out _) hu3 (Nat.le_of_lt (heap_lt Hw2.out)) (by intro k h1 h2; omega))
        have Hw3 := Lib.hid hw3
        clear hw3 hu3 Hw2 Hb2
        go_wp2_with (first
          | (go_at_call 10; refine (size_q _ _ _ _ _ (by exact Hw3.out)).mono ?_; rintro e w' ⟨rfl, q, rfl⟩)
          | (go_at_call 12; refine (slow_q _ _ _ _ _ (by exact Hw3.out)).mono ?_; rintro e w' ⟨rfl, q, rfl⟩))
        have hh1 : 2560 ≤ z / 2 := by omega
        have hh2 : z / 2 ≤ 15360 := by omega
        generalize z / 2 = h at *
        have Hg := Lib.hid (⟨by omega, by omega, by simp, Hw3.out, Hb3.out⟩ : Grew 36 w w3 b h W 0 h)
        clear Hw3 Hb3 hlt hd hz1 hz2
        go_loopw [11] (fun i wr => ∃ (j : Nat) (s : Int), i = .int .i64 (512 * (j : Int)) ∧ Grew 36 w wr b h W j s) (fun i _ => (h - intOf i).toNat)
        case atStart => exact ⟨0, h, rfl, (show Grew 36 w w3 b h W 0 h from Hg.out).drewN _⟩
        case round =>
          obtain ⟨j, s, rfl, hg⟩ := hrel
          obtain ⟨hs1, hs2⟩ := hg.bound hh1 hh2
          have Hg := Lib.hid hg
          clear hg
          by_cases hj : 512 * (j : Int) < h
          · go_wp2_with fail
            refine (acked_any _ _ _ _ _ _ _ (by exact Hg.out.2.2.2.1) (by omega) (by omega)).mono ?_
            have hq := div_le_of (s := s) (by omega) (by omega)
            rw [ackS_fast (by omega) (by omega) (by omega)]
            rintro e w4 ⟨rfl, hw4, hu4⟩
            have Hg2 := Lib.hid (Grew.step Hg.out hj hh1 rfl (by omega) hw4 (Upd.onto Hg.out.2.2.2.2 hu4 (Nat.le_of_lt (heap_lt Hg.out.2.2.2.1)) (by intro k h1 h2; omega)))
            clear hq hw4 hu4 Hg
            go_wp2
            go_roundw
            case rel => exact ⟨j + 1, _, by go_num, Hg2.out⟩
            case measure => simp [intOf]; omega
          · have hs3 : h < s := by omega
            go_wp2_with (first
              | (go_at_call 10; refine (size_q _ _ _ _ _ (by exact Hg.out.2.2.2.1)).mono ?_; rintro e w' ⟨rfl, q, rfl⟩)
              | (go_at_call 13; refine (known_any _).mono ?_; rintro e w' ⟨rfl, hk⟩))
            go_ret
            exact ⟨rfl, by
              have hs := HS.out
              subst hs
              exact below_call (below_drewN Hg.out.2.2.2.2 _) (Nat.le_of_lt (heap_lt Hg.out.2.2.2.1)) hk⟩
end Go.Proofs.Ytefanlmknoepdaa
