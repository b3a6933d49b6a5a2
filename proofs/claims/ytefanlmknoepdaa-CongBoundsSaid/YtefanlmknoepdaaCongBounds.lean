/- DERIVED. Walk of narthexlaw13's CongBounds. -/
import Derived.Test.YtefanlmknoepdaaCongPlay
import Derived.Test.YtefanlmknoepdaaCongKnown
namespace Go.Proofs.Ytefanlmknoepdaa
open Go.RowKit

/-- The one window. -/
def One (W0 w : World) (B b : Nat) (s t c : Int) : Prop := 1024 ≤ s ∧ s ≤ 1073741824 ∧ Win 36 w b s t c ∧ Below B W0 w
theorem One.next {W0 w w2 : World} {B b : Nat} {s t c s' t' c' : Int} (h : One W0 w B b s t c) (hb : B ≤ b) (hw : Win 36 w2 b s' t' c') (hu : Upd (fun k => k = b) w w2) (h1 : 1024 ≤ s') (h2 : s' ≤ 1073741824) :
    One W0 w2 B b s' t' c' :=
  ⟨h1, h2, hw, Upd.onto h.2.2.2 hu (Nat.le_of_lt (Nat.lt_of_le_of_lt hb (heap_lt h.2.2.1))) (by intro k h1 h2; omega)⟩
theorem One.drew {W0 w : World} {B b : Nat} {s t c : Int} (h : One W0 w B b s t c) : One W0 w.drew B b s t c := ⟨h.1, h.2.1, h.2.2.1, h.2.2.2.drew⟩
theorem One.drewN {W0 w : World} {B b : Nat} {s t c : Int} (h : One W0 w B b s t c) (n : Nat) : One W0 (w.drewN n) B b s t c := ⟨h.1, h.2.1, h.2.2.1, below_drewN h.2.2.2 n⟩
theorem ackS_grow {s t c z m : Int} (h1 : 1024 ≤ s) (h2 : s ≤ 1073741824) : s ≤ ackS s t c z m ∧ ackS s t c z m ≤ s + 512 := by
  have hc := clampD_bd z
  have hd := div_bd (clampD z) s hc.1 hc.2 h1
  unfold ackS
  repeat' split
  all_goals omega
theorem lostS_fall {s c m : Int} (h1 : 1024 ≤ s) (h2 : s ≤ 1073741824) : lostS s c m ≤ s ∧ s / 2 ≤ lostS s c m := by
  unfold lostS
  repeat' split
  all_goals omega

set_option maxRecDepth 100000 in
set_option maxHeartbeats 1000000 in
theorem bounds_walk (oa : Option Addr) (len cap : Nat) (f : Nat → Nat → Int) (w : World) (hlen : len ≤ 9223372036854775807) (ha : Asks w w.heap.size oa len f) :
    Calls Try.prog 6 #[.slice oa len cap] w fun e w' => e = .returned (.bool true) ∧ Below w.heap.size w w' := by
  have HA := Lib.hid ha
  clear ha
  go_enter Try.func6, Try.ntmps6
  go_wp2_with fail
  refine (new_x _).mono ?_
  rintro e w1 ⟨b, rfl, hb1, hw1, hB1⟩
  have HB := Lib.hid hb1
  have HH0 := Lib.hid (show One w w1 w.heap.size b 5120 1073741824 (-1) from ⟨by omega, by omega, hw1, hB1⟩)
  clear hw1 hB1 hb1
  go_wp2_with fail
  go_loopw [4] (fun i wr => ∃ (k : Nat) (s t c : Int), i = .int .i64 k ∧ k ≤ 80 ∧ One w wr w.heap.size b s t c) (fun i _ => 80 - (intOf i).toNat)
  case atStart => exact ⟨0, _, _, _, rfl, by omega, HH0.out⟩
  case round =>
    clear HH0
    obtain ⟨k, s, t, c, rfl, hk, hb⟩ := hrel
    obtain ⟨hs1, hs2⟩ : 1024 ≤ s ∧ s ≤ 1073741824 := ⟨hb.1, hb.2.1⟩
    have HH := Lib.hid hb
    clear hb
    by_cases hlt : k < len
    · by_cases hlt2 : k < 80
      · obtain ⟨a, off, rfl, hab, hcell, hbd⟩ := HA.out k hlt
        have HC := Lib.hid hcell
        clear HA hcell hbd
        go_wp2_with fail
        refine (size_q _ _ _ _ _ (by exact HH.out.2.2.1)).mono ?_
        rintro e w' ⟨rfl, q, rfl⟩
        replace HH := Lib.hid (HH.out.drewN q)
        generalize wr.drewN q = wr1 at *
        have c0 := cell_keep HH.out.2.2.2 hab (HC.out 0 (by omega))
        have c1 := cell_keep HH.out.2.2.2 hab (HC.out 1 (by omega))
        have c2 := cell_keep HH.out.2.2.2 hab (HC.out 2 (by omega))
        have c3 := cell_keep HH.out.2.2.2 hab (HC.out 3 (by omega))
        simp only [Nat.add_zero] at c0
        go_upto_block 2 with fail
        go_cut [] (fun wx => ∃ s t c, One w wx w.heap.size b s t c)
        case first =>
          go_wp2_with fail
          · go_still_tail 11, (by kernel_rfl)
            change wpList _ _ _ _ _ wr1.drew
            go_wp2_with fail
            refine (lost_any _ _ _ _ _ _ _ (by exact HH.out.2.2.1) (by omega) (by omega)).mono ?_
            rintro e w3 ⟨rfl, hw3, hu3⟩
            obtain ⟨q1, q2⟩ := lostS_bd (s := s) (c := c) (m := f k 2) (by omega) (by omega)
            obtain ⟨q3, q4⟩ := lostS_fall (s := s) (c := c) (m := f k 2) (by omega) (by omega)
            have H3 := Lib.hid (One.next HH.out.drew HB.out hw3 hu3 q1 q2)
            clear hw3 hu3 c0 c1 c2 c3 HH
            generalize lostS s c (f k 2) = s2 at *
            go_wp2_with (go_at_call 10; refine (size_q _ _ _ _ _ (by exact H3.out.2.2.1)).mono ?_; rintro e w' ⟨rfl, q, rfl⟩)
            go_meet
            case rel => exact ⟨_, _, _, H3.out.drewN _⟩
          · refine (persist_any _ _ _ _ _ (by exact HH.out.2.2.1)).mono ?_
            rintro e w3 ⟨rfl, hw3, hu3⟩
            have H3 := Lib.hid (One.next HH.out HB.out hw3 hu3 (by omega) (by omega))
            clear hw3 hu3 c0 c1 c2 c3 HH
            go_wp2_with (go_at_call 10; refine (size_q _ _ _ _ _ (by exact H3.out.2.2.1)).mono ?_; rintro e w' ⟨rfl, q, rfl⟩)
            go_meet
            case rel => exact ⟨_, _, _, H3.out.drewN _⟩
          · go_still_tail 11, (by kernel_rfl)
            change wpList _ _ _ _ _ wr1.drew
            go_wp2_with fail
            refine (acked_any _ _ _ _ _ _ _ (by exact HH.out.2.2.1) (by omega) (by omega)).mono ?_
            rintro e w3 ⟨rfl, hw3, hu3⟩
            obtain ⟨q1, q2⟩ := ackS_bd (s := s) (t := t) (c := c) (z := f k 1) (m := f k 2) (by omega) (by omega)
            obtain ⟨q3, q4⟩ := ackS_grow (s := s) (t := t) (c := c) (z := f k 1) (m := f k 2) (by omega) (by omega)
            have H3 := Lib.hid (One.next HH.out.drew HB.out hw3 hu3 q1 q2)
            clear hw3 hu3 c0 c1 c2 c3 HH
            generalize ackS s t c (f k 1) (f k 2) = s2 at *
            go_wp2_with (go_at_call 10; refine (size_q _ _ _ _ _ (by exact H3.out.2.2.1)).mono ?_; rintro e w' ⟨rfl, q, rfl⟩)
            go_meet
            case rel => exact ⟨_, _, _, H3.out.drewN _⟩
        case rest =>
          clear HH hs1 hs2 c0 c1 c2 c3
          obtain ⟨s, t, c, hb⟩ := hcut
          obtain ⟨hs1, hs2⟩ : 1024 ≤ s ∧ s ≤ 1073741824 := ⟨hb.1, hb.2.1⟩
          have HH := Lib.hid hb
          clear hb
          go_wp2_with (go_at_call 10; refine (size_q _ _ _ _ _ (by exact HH.out.2.2.1)).mono ?_; rintro e w' ⟨rfl, q, rfl⟩)
          go_roundw
          case rel => exact ⟨k + 1, s, t, c, by go_num, by omega, HH.out.drewN _⟩
          case measure => simp [intOf]; omega
      · clear HA
        go_wp2_with (go_at_call 13; refine (known_any _).mono ?_; rintro e w' ⟨rfl, hk⟩)
        go_ret
        exact ⟨rfl, below_call HH.out.2.2.2 (Nat.le_of_lt (Nat.lt_of_le_of_lt HB.out (heap_lt HH.out.2.2.1))) ‹_›⟩
    · clear HA
      go_wp2_with (go_at_call 13; refine (known_any _).mono ?_; rintro e w' ⟨rfl, hk⟩)
      go_ret
      exact ⟨rfl, below_call HH.out.2.2.2 (Nat.le_of_lt (Nat.lt_of_le_of_lt HB.out (heap_lt HH.out.2.2.1))) ‹_›⟩
end Go.Proofs.Ytefanlmknoepdaa
