/- DERIVED. Walk of narthexlaw13's play. -/
import Derived.Test.YtefanlmknoepdaaCong
import Derived.Deep.DeepCutAuto
import Derived.Deep.CutBlock
namespace Go.Proofs.Ytefanlmknoepdaa
open Go.RowKit

def I64 (n : Int) : Prop := -9223372036854775808 ≤ n ∧ n ≤ 9223372036854775807
/-- A row of Asks: Kind, Size, Time, Now. -/
def Asks (w : World) (B : Nat) (oa : Option Addr) (len : Nat) (f : Nat → Nat → Int) : Prop :=
  ∀ i, i < len → ∃ b off, oa = some ⟨b, off, none⟩ ∧ b < B ∧ (∀ j, j < 4 → w.cell? ⟨b, off + i * 4 + j, none⟩ = some (.int .i64 (f i j))) ∧ ∀ j, j < 4 → I64 (f i j)
theorem Asks.below {w w' : World} {B : Nat} {oa : Option Addr} {len : Nat} {f : Nat → Nat → Int} (h : Asks w B oa len f) (hb : Below B w w') : Asks w' B oa len f := fun i hi => by
  obtain ⟨b, off, h1, h2, h3, h4⟩ := h i hi
  exact ⟨b, off, h1, h2, fun j hj => by rw [hb.cell h2]; exact h3 j hj, h4⟩

/-- What the two windows are like: one state. -/
def Both (W0 w : World) (B b b' : Nat) (s t c : Int) : Prop :=
  1024 ≤ s ∧ s ≤ 1073741824 ∧ Win 36 w b s t c ∧ Win 41 w b' s t c ∧ Below B W0 w
theorem ackS_bd {s t c z m : Int} (h1 : 1024 ≤ s) (h2 : s ≤ 1073741824) : 1024 ≤ ackS s t c z m ∧ ackS s t c z m ≤ 1073741824 := by
  have hc := clampD_bd z
  have hd := div_bd (clampD z) s hc.1 hc.2 h1
  unfold ackS
  repeat' split
  all_goals omega
theorem lostS_bd {s c m : Int} (h1 : 1024 ≤ s) (h2 : s ≤ 1073741824) : 1024 ≤ lostS s c m ∧ lostS s c m ≤ 1073741824 := by
  unfold lostS
  repeat' split
  all_goals omega

theorem new_x (w : World) : Calls Try.prog 7 #[] w fun e w' => ∃ b, e = .returned (.pointer (some ⟨b, 0, none⟩)) ∧ w.heap.size ≤ b ∧ Win 36 w' b 5120 1073741824 (-1) ∧ Below w.heap.size w w' :=
  (new_any w).mono fun _ _ ⟨he, hw⟩ => by subst hw; exact ⟨_, he, Nat.le_refl _, alloc_at _ _, (Below.refl _ _).alloc (Nat.le_refl _) _⟩
theorem rnew_x (w : World) : Calls Try.prog 17 #[] w fun e w' => ∃ b, e = .returned (.pointer (some ⟨b, 0, none⟩)) ∧ w.heap.size ≤ b ∧ Win 41 w' b 5120 1073741824 (-1) ∧ Below w.heap.size w w' :=
  (rnew_any w).mono fun _ _ ⟨he, hw⟩ => by subst hw; exact ⟨_, he, Nat.le_refl _, alloc_at _ _, (Below.refl _ _).alloc (Nat.le_refl _) _⟩

theorem Win.below {T : TypeId} {w w' : World} {b : Nat} {s t c : Int} (h : Win T w b s t c) (hB : Below w.heap.size w w') : Win T w' b s t c := by
  unfold Win at *
  rw [hB.block _ (heap_lt h)]
  exact h

theorem Both.half {W0 w w2 : World} {B b b' : Nat} {s t c s' t' c' : Int} (h : Both W0 w B b b' s t c) (hb : B ≤ b) (hbb : b ≠ b') (hw : Win 36 w2 b s' t' c') (hu : Upd (fun k => k = b) w w2) :
    Win 36 w2 b s' t' c' ∧ Win 41 w2 b' s t c ∧ Below B W0 w2 :=
  ⟨hw, hu.keeps h.2.2.2.1 (by omega), Upd.onto h.2.2.2.2 hu (Nat.le_of_lt (Nat.lt_of_le_of_lt hb (heap_lt h.2.2.1))) (by intro k h1 h2; omega)⟩
theorem Both.whole {W0 w w2 : World} {B b b' : Nat} {s t c s' t' c' : Int} (h : Win 36 w b s' t' c' ∧ Win 41 w b' s t c ∧ Below B W0 w) (hb : B ≤ b) (hb' : B ≤ b') (hbb : b ≠ b')
    (hw : Win 41 w2 b' s' t' c') (hu : Upd (fun k => k = b') w w2) (h1 : 1024 ≤ s') (h2 : s' ≤ 1073741824) : Both W0 w2 B b b' s' t' c' :=
  ⟨h1, h2, hu.keeps h.1 (by omega), hw, Upd.onto h.2.2 hu (Nat.le_of_lt (Nat.lt_of_le_of_lt hb (heap_lt h.1))) (by intro k h1 h2; omega)⟩
theorem Both.drew {W0 w : World} {B b b' : Nat} {s t c : Int} (h : Both W0 w B b b' s t c) : Both W0 w.drew B b b' s t c := ⟨h.1, h.2.1, h.2.2.1, h.2.2.2.1, h.2.2.2.2.drew⟩
theorem Both.drewN {W0 w : World} {B b b' : Nat} {s t c : Int} (h : Both W0 w B b b' s t c) (n : Nat) : Both W0 (w.drewN n) B b b' s t c := ⟨h.1, h.2.1, h.2.2.1, h.2.2.2.1, below_drewN h.2.2.2.2 n⟩
theorem cell_keep {B : Nat} {w w' : World} {a o : Nat} {v : Value} (h : Below B w w') (ha : a < B) (c : w.cell? ⟨a, o, none⟩ = some v) : w'.cell? ⟨a, o, none⟩ = some v := by
  rw [h.cell ha]
  exact c

set_option maxRecDepth 100000 in
set_option maxHeartbeats 1000000 in
theorem play_walk (oa : Option Addr) (len cap : Nat) (f : Nat → Nat → Int) (w : World) (hlen : len ≤ 9223372036854775807) (ha : Asks w w.heap.size oa len f) :
    Calls Try.prog 14 #[.slice oa len cap] w fun e w' => e = .returned (.bool true) ∧ Below w.heap.size w w' := by
  have HA := Lib.hid ha
  clear ha
  go_enter Try.func14, Try.ntmps14
  go_wp2_with fail
  refine (new_x _).mono ?_
  rintro e w1 ⟨b, rfl, hb1, hw1, hB1⟩
  have HW := Lib.hid hw1
  have HB := Lib.hid hB1
  have HL := Lib.hid hb1
  clear hw1 hB1 hb1
  go_wp2_with fail
  refine (rnew_x _).mono ?_
  rintro e w2 ⟨b', rfl, hb2, hw2, hB2⟩
  have Hb := Lib.hid (show w.heap.size ≤ b ∧ b < b' ∧ Both w w2 w.heap.size b b' 5120 1073741824 (-1) from
    ⟨HL.out, Nat.lt_of_lt_of_le (heap_lt HW.out) hb2, by omega, by omega, HW.out.below hB2, hw2, HB.out.trans (hB2.mono HB.out.size)⟩)
  clear HW HB HL hb2 hw2 hB2
  go_wp2_with fail
  go_loopw [5] (fun i wr => ∃ (k : Nat) (s t c : Int), i = .int .i64 k ∧ k ≤ 80 ∧ Both w wr w.heap.size b b' s t c) (fun i _ => 80 - (intOf i).toNat)
  case atStart => exact ⟨0, _, _, _, rfl, by omega, Hb.out.2.2⟩
  case round =>
    obtain ⟨k, s, t, c, rfl, hk, hb⟩ := hrel
    obtain ⟨hs1, hs2⟩ : 1024 ≤ s ∧ s ≤ 1073741824 := ⟨hb.1, hb.2.1⟩
    have HH := Lib.hid hb
    clear hb
    by_cases hlt : k < len
    · by_cases hlt2 : k < 80
      · obtain ⟨a, off, rfl, hab, hcell, hbd⟩ := HA.out k hlt
        have C0 := Lib.hid (hcell 0 (by omega))
        have C1 := Lib.hid (hcell 1 (by omega))
        have C2 := Lib.hid (hcell 2 (by omega))
        have C3 := Lib.hid (hcell 3 (by omega))
        have HL := Lib.hid (show w.heap.size ≤ b ∧ w.heap.size ≤ b' ∧ b ≠ b' from ⟨Hb.out.1, by have := Hb.out; omega, by have := Hb.out; omega⟩)
        have Hbd := Lib.hid hbd
        clear hcell hbd HA Hb
        have c0 := cell_keep HH.out.2.2.2.2 hab C0.out
        simp only [Nat.add_zero] at c0
        go_upto_block 2 with fail
        go_cut [] (fun wx => ∃ s t c, Both w wx w.heap.size b b' s t c)
        case first =>
          have c1 := cell_keep HH.out.2.2.2.2 hab C1.out
          have c2 := cell_keep HH.out.2.2.2.2 hab C2.out
          have c3 := cell_keep HH.out.2.2.2.2 hab C3.out
          go_wp2_with fail
          · go_still_tail 11, (by kernel_rfl)
            change wpList _ _ _ _ _ wr.drew
            go_wp2_with fail
            refine (lost_any _ _ _ _ _ _ _ (by exact HH.out.2.2.1) (by omega) (by omega)).mono ?_
            rintro e w3 ⟨rfl, hw3, hu3⟩
            have H3 := Lib.hid (Both.half HH.out.drew HL.out.1 HL.out.2.2 hw3 hu3)
            clear hw3 hu3 c0 c1 c2 c3 HH
            have c1 := cell_keep H3.out.2.2 hab C1.out
            have c2 := cell_keep H3.out.2.2 hab C2.out
            have c3 := cell_keep H3.out.2.2 hab C3.out
            go_wp2_with fail
            go_still_tail 11, (by kernel_rfl)
            change wpList _ _ _ _ _ w3.drew
            go_wp2_with fail
            refine (rlost_any _ _ _ _ _ _ _ (by exact H3.out.2.1) (by omega) (by omega)).mono ?_
            rintro e w4 ⟨rfl, hw4, hu4⟩
            obtain ⟨q1, q2⟩ := lostS_bd (s := s) (c := c) (m := f k 2) (by omega) (by omega)
            have H4 := Lib.hid (Both.whole (w := w3.drew) ⟨H3.out.1, H3.out.2.1, H3.out.2.2.drew⟩ HL.out.1 HL.out.2.1 HL.out.2.2 hw4 hu4 q1 q2)
            clear hw4 hu4 c1 c2 c3 q1 q2
            go_wp2_with fail
            go_meet
            case rel => exact ⟨_, _, _, H4.out⟩
          · refine (persist_any _ _ _ _ _ (by exact HH.out.2.2.1)).mono ?_
            rintro e w3 ⟨rfl, hw3, hu3⟩
            have H3 := Lib.hid (Both.half HH.out HL.out.1 HL.out.2.2 hw3 hu3)
            clear hw3 hu3 c0 c1 c2 c3 HH
            go_wp2_with fail
            refine (rpersist_any _ _ _ _ _ (by exact H3.out.2.1)).mono ?_
            rintro e w4 ⟨rfl, hw4, hu4⟩
            have H4 := Lib.hid (Both.whole H3.out HL.out.1 HL.out.2.1 HL.out.2.2 hw4 hu4 (by omega) (by omega))
            clear hw4 hu4
            go_wp2_with fail
            go_meet
            case rel => exact ⟨_, _, _, H4.out⟩
          · go_still_tail 11, (by kernel_rfl)
            change wpList _ _ _ _ _ wr.drew
            go_wp2_with fail
            refine (acked_any _ _ _ _ _ _ _ (by exact HH.out.2.2.1) (by omega) (by omega)).mono ?_
            rintro e w3 ⟨rfl, hw3, hu3⟩
            have H3 := Lib.hid (Both.half HH.out.drew HL.out.1 HL.out.2.2 hw3 hu3)
            clear hw3 hu3 c0 c1 c2 c3 HH
            have c1 := cell_keep H3.out.2.2 hab C1.out
            have c2 := cell_keep H3.out.2.2 hab C2.out
            have c3 := cell_keep H3.out.2.2 hab C3.out
            go_wp2_with fail
            go_still_tail 11, (by kernel_rfl)
            change wpList _ _ _ _ _ w3.drew
            go_wp2_with fail
            refine (racked_any _ _ _ _ _ _ _ (by exact H3.out.2.1) (by omega) (by omega)).mono ?_
            rintro e w4 ⟨rfl, hw4, hu4⟩
            obtain ⟨q1, q2⟩ := ackS_bd (s := s) (t := t) (c := c) (z := f k 1) (m := f k 2) (by omega) (by omega)
            have H4 := Lib.hid (Both.whole (w := w3.drew) ⟨H3.out.1, H3.out.2.1, H3.out.2.2.drew⟩ HL.out.1 HL.out.2.1 HL.out.2.2 hw4 hu4 q1 q2)
            clear hw4 hu4 c1 c2 c3 q1 q2
            go_wp2_with fail
            go_meet
            case rel => exact ⟨_, _, _, H4.out⟩
        case rest =>
          clear HH hs1 hs2 c0
          obtain ⟨s, t, c, hb⟩ := hcut
          obtain ⟨hs1, hs2⟩ : 1024 ≤ s ∧ s ≤ 1073741824 := ⟨hb.1, hb.2.1⟩
          have HH := Lib.hid hb
          clear hb
          have c1 := cell_keep HH.out.2.2.2.2 hab C1.out
          have h0 := cell_at HH.out.2.2.2.1 0
          have h1 := cell_at HH.out.2.2.2.1 1
          simp at h0 h1
          go_wp2_with fail
          simp only [List.append_eq, List.cons_append, List.nil_append]
          go_quiet (first
            | (go_at_call 10; exact Calls.quiet_of (size_q b s t c _ HH.out.2.2.1))
            | (go_at_call 12; exact Calls.quiet_of (slow_q b s t c _ HH.out.2.2.1))
            | (go_at_call 16; exact Calls.quiet_of (may_q b s t c _ _ _ HH.out.2.2.1 (by omega) (by omega)))
            | (go_at_call 21; exact Calls.quiet_of (rmay_q b' s t c _ _ _ HH.out.2.2.2.1 (by omega) (by omega))))
          go_wp2
          go_roundw
          case rel => exact ⟨k + 1, s, t, c, by go_num, by omega, HH.out.drewN _⟩
          case measure => simp [intOf]; omega
      · go_wp2
        go_ret
        exact ⟨rfl, HH.out.2.2.2.2⟩
    · go_wp2
      go_ret
      exact ⟨rfl, HH.out.2.2.2.2⟩
end Go.Proofs.Ytefanlmknoepdaa
