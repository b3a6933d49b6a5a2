/- DERIVED. Walk of narthexlaw18's StreamsOpen. -/
import Derived.Test.YtfdgamlakfkekaaQO18
set_option linter.all false
namespace Go.Proofs.Ytfdgamlakfkekaa
open Go.RowKit

theorem oF_ok (sv : Bool) {j : Nat} (hj : j < 8) : FrOk (oF sv j) := ⟨⟨by show (-9223372036854775808 : Int) ≤ 8; omega, by show (8 : Int) ≤ 9223372036854775807; omega⟩, by unfold oF; cases sv <;> simp <;> omega, by show 0 < _; omega, by show 0 < _; omega, by show 0 < _; omega, by show 0 < _; omega⟩
set_option maxRecDepth 100000 in
set_option maxHeartbeats 8000000 in
theorem stopen_walk (sv : Bool) (n of : Int) (w : World) (hn : -9223372036854775808 ≤ n) (hn2 : n ≤ 9223372036854775807) (ho : -9223372036854775808 ≤ of) (ho2 : of ≤ 9223372036854775807) :
    Calls Try.prog 3 #[.bool sv, .int .i64 n, .int .i64 of] w fun e w' => e = .returned (.bool true) ∧ Below w.heap.size w w' := by
  obtain ⟨k, hk, hkb⟩ : ∃ k : Nat, withinS n 0 12 = k ∧ k ≤ 12 := ⟨(withinS n 0 12).toNat, by have := withinS_bd n 0 12 (by omega); omega, by have := withinS_bd n 0 12 (by omega); omega⟩
  obtain ⟨j, hj, hjb⟩ : ∃ j : Nat, withinS of 0 7 = j ∧ j ≤ 7 := ⟨(withinS of 0 7).toNat, by have := withinS_bd of 0 7 (by omega); omega, by have := withinS_bd of 0 7 (by omega); omega⟩
  have HK := Lib.hid (And.intro hk hj)
  obtain ⟨fi, hfi, hfib⟩ : ∃ fi : Nat, (if sv then 1 else 0) = fi ∧ fi ≤ 1 := ⟨_, rfl, by split <;> omega⟩
  have HFI := Lib.hid hfi
  have HO := Lib.hid (fun (i : Nat) (hi : i ≤ 14) => oT_facts sv ⟨k, by omega⟩ ⟨i, by omega⟩)
  have HU := Lib.hid (oU_facts sv ⟨j, by omega⟩)
  have HUM := Lib.hid (oU_more sv)
  have HF := Lib.hid (oF_ok sv (j := j) (by omega))
  have HFC := Lib.hid (show (encF (oF sv j)) = [.int .i64 8, .int .u64 (fi + 4 * j : Nat), .int .u64 0, .slice none 0 0, .bool false, .int .u64 0, .int .u64 0, .int .u64 0, .int .u64 0, .int .u64 0, .slice none 0 0, .int .u8 0, .int .u8 0, .int .u8 0, .int .u8 0, .int .u8 0, .int .u8 0, .int .u8 0, .int .u8 0] from by unfold encF oF; simp only [hfi]; rfl)
  simp only at HO HU
  rw [hfi] at HO HU
  clear hk hj
  go_enter Try.func3, Try.ntmps3
  go_wp2_with fail
  refine (within_any n 0 12 _ (by omega) (by omega) (by omega) hn hn2).mono ?_
  rw [HK.out.1]
  rintro e w1 ⟨rfl, rfl⟩
  go_wp2_with fail
  refine (params_any 63 (by omega) _).mono ?_
  rintro e w1 ⟨rfl, hb1⟩
  have HB1 := Lib.hid hb1
  clear hb1
  go_wp2_with fail
  refine (tnew_any sv (pmN 63) pm63_ok _).mono ?_
  rintro e w2 ⟨p, rfl, hm⟩
  have HM2 := Lib.hid (hm.first HB1.out)
  clear hm
  go_wp2_with fail
  refine (params_any 63 (by omega) _).mono ?_
  rintro e w3 ⟨rfl, hb3⟩
  have HM3 := Lib.hid (HM2.out.later hb3)
  clear hb3 HM2 HB1
  go_wp2_with fail
  refine (tnew_any (!sv) (pmN 63) pm63_ok _).mono ?_
  rintro e w4 ⟨q, rfl, hm⟩
  have HP4 := Lib.hid (show TP w w4 p (ST.new sv (pmN 63)) q (oU sv) from TP.mk HM3.out hm)
  clear hm HM3
  have hkw : IntKind.u64.wrap (k : Int) = k := IntWalk.u64_in _ (by omega)
  go_wp2_with fail
  obtain ⟨lab, a, b, hs, hgo⟩ := HP4.out.open
  have HG := Lib.hid hgo
  refine (tallow_any p _ lab a b ⟨0, 100, 100, k, 0, 0, 0, 0, 0, 0, 0, 0⟩ _ hs ⟨by show 0 < _; omega, by show 100 < _; omega, by show 100 < _; omega, by show k < _; omega⟩ rfl rfl).mono ?_
  rintro e w5 ⟨rfl, hs5, hu5⟩
  have HP5 := Lib.hid (show TP w w5 p (oT sv k) q (oU sv) from HG.out _ _ ⟨lab, hs5, hu5, fun k hk => .inl hk⟩)
  clear hs hgo hs5 hu5 HG HP4 lab a b
  go_upto_if 37 with fail
  go_cut [10] (fun v wx => v = .int .u64 fi ∧ wx = w5)
  case first =>
    cases sv
    · obtain rfl : fi = 0 := HFI.out.symm
      go_wp2_with fail
      go_meet
      case rel => exact ⟨rfl, rfl⟩
    · obtain rfl : fi = 1 := HFI.out.symm
      go_wp2_with fail
      go_meet
      case rel => exact ⟨rfl, rfl⟩
  case rest =>
    obtain ⟨rfl, rfl⟩ := hcut
    have q8 := imin8 k
    obtain ⟨mk, hmk⟩ : ∃ mk, min k 8 = mk := ⟨_, rfl⟩
    have HMK := Lib.hid hmk
    rw [hmk] at q8 HO
    clear hmk
    go_wp2_with fail
    go_loopw [11] (fun i wr => ∃ c : Nat, i = .int .i64 c ∧ c ≤ 14 ∧ TP w wr p ((oT sv k).opns c) q (oU sv)) (fun i _ => 14 - (intOf i).toNat)
    case atStart => exact ⟨0, rfl, by omega, HP5.out⟩
    case round =>
      obtain ⟨c, rfl, hc, htp⟩ := hrel
      have HP := Lib.hid htp
      clear htp HP5
      obtain ⟨o1, o2, o3⟩ := HO.out c hc
      have HO1 := Lib.hid (And.intro o1 (And.intro o2 o3))
      clear o1 o2 o3
      by_cases hlt : c < 14
      · go_wp2_with fail
        obtain ⟨lab, a, b, hs, hgo⟩ := HP.out.open
        have HG := Lib.hid hgo
        refine (tOpen_any p _ lab a b _ hs (by rw [HO1.out.2.1]; omega)).mono ?_
        rw [HO1.out.1]
        rintro e w6 ⟨rfl, hr⟩
        have HP6 := Lib.hid (show TP w w6 p ((oT sv k).opns (c + 1)) q (oU sv) from HG.out _ _ hr)
        clear hs hgo hr HG HP lab a b
        by_cases hcm : c < mk
        · rw [if_pos hcm]
          have hcmi : (c : Int) < (mk : Int) := by omega
          have h4 : IntKind.i64.wrap (4 * (c : Int)) = (4 * c : Nat) := by rw [IntWalk.i64_in _ (by omega)]; omega
          have h4u : IntKind.u64.wrap ((4 * c : Nat) : Int) = (4 * c : Nat) := IntWalk.u64_in _ (by omega)
          have hsum : IntKind.u64.wrap ((fi : Int) + (4 * c : Nat)) = (fi + 4 * c : Nat) := by rw [IntWalk.u64_in _ (by omega)]; omega
          go_wp2_with fail
          go_roundw
          case rel => exact ⟨c + 1, by go_num, by omega, HP6.out⟩
          case measure => simp [intOf]; omega
        · rw [if_neg hcm]
          have hcmi : ¬ (c : Int) < (mk : Int) := by omega
          go_wp2_with fail
          go_roundw
          case rel => exact ⟨c + 1, by go_num, by omega, HP6.out⟩
          case measure => simp [intOf]; omega
      · obtain rfl : c = 14 := by omega
        clear hlt
        go_wp2_with fail
        refine (within_any of 0 7 _ (by omega) (by omega) (by omega) ho ho2).mono ?_
        rw [HK.out.2]
        rintro e w6 ⟨rfl, rfl⟩
        have h4 : IntKind.i64.wrap (4 * (j : Int)) = (4 * j : Nat) := by rw [IntWalk.i64_in _ (by omega)]; omega
        have h4u : IntKind.u64.wrap ((4 * j : Nat) : Int) = (4 * j : Nat) := IntWalk.u64_in _ (by omega)
        have hsum : IntKind.u64.wrap ((fi : Int) + (4 * j : Nat)) = (fi + 4 * j : Nat) := by rw [IntWalk.u64_in _ (by omega)]; omega
        go_wp2_with fail
        obtain ⟨lab, a, b, hs, hgo⟩ := HP.out.swap.open
        have HG := Lib.hid hgo
        have hcall := ton_str q (oU sv) lab a b (oF sv j) none 0 0 [] _ hs HF.out rfl (.inl rfl) vwa_none (by unfold Bys; decide) rfl (by omega) (by rw [HUM.out.1]; omega) (by rw [HUM.out.2]; omega)
        rw [HFC.out, HU.out.1] at hcall
        refine hcall.mono ?_
        clear hcall
        rintro e w7 ⟨rfl, hr⟩
        have HP7 := Lib.hid (HG.out _ _ hr).swap
        clear hs hgo hr HG HP lab a b
        go_wp2_with fail
        obtain ⟨lab, a, b, hs, hgo⟩ := HP7.out.swap.open
        refine (tids_any q _ lab a b _ hs).mono ?_
        rw [HU.out.2]
        rintro e w8 ⟨v, og, rfl, hsl, hog, hb8⟩
        have HP8 := Lib.hid (HP7.out.later hb8)
        have hln : ((List.range (j + 1)).map fun i => fi + 4 * i).length = j + 1 := by simp
        obtain ⟨ov, cv, rfl, hc1, hc2⟩ := hsl.shape
        have HSL := Lib.hid hsl
        rw [hln] at hc1 hsl HSL ⊢
        clear hs hgo hog hb8 HP7 hsl lab a b hln
        have hj1 : IntKind.i64.wrap ((j : Int) + 1) = (j + 1 : Nat) := by rw [IntWalk.i64_in _ (by omega)]; omega
        go_wp2_with fail
        go_loopw [16] (fun i wr => ∃ c : Nat, i = .int .i64 c ∧ c ≤ j + 1 ∧ wr = w8) (fun i _ => 8 - (intOf i).toNat)
        case atStart => exact ⟨0, rfl, by omega, rfl⟩
        case round =>
          obtain ⟨c, rfl, hc, rfl⟩ := hrel
          by_cases hcj : c ≤ j
          · have hcji : (c : Int) ≤ (j : Int) := by omega
            have hcl : (c : Int) < (j + 1 : Nat) := by omega
            obtain ⟨g, _, rfl, _, hg1, _⟩ := HSL.out.el1 (f := fun n : Nat => Value.int .u64 n) (fun _ => rfl) (i := c) (a := fi + 4 * c) (by rw [List.getElem?_map, List.getElem?_range (by omega)]; rfl)
            have h4c : IntKind.i64.wrap (4 * (c : Int)) = (4 * c : Nat) := by rw [IntWalk.i64_in _ (by omega)]; omega
            have h4uc : IntKind.u64.wrap ((4 * c : Nat) : Int) = (4 * c : Nat) := IntWalk.u64_in _ (by omega)
            have hsumc : IntKind.u64.wrap ((fi : Int) + (4 * c : Nat)) = (fi + 4 * c : Nat) := by rw [IntWalk.u64_in _ (by omega)]; omega
            go_wp2_with fail
            go_roundw
            case rel => exact ⟨c + 1, by go_num, by omega, by first | rfl | trivial⟩
            case measure => simp [intOf]; omega
          · have hcji : ¬ (c : Int) ≤ (j : Int) := by omega
            clear HSL
            go_wp2_with fail
            obtain ⟨lab, a, b, hs, hgo⟩ := HP8.out.open
            refine (tids_any p _ lab a b _ hs).mono ?_
            rintro e w9 ⟨v, og, rfl, hsl, hog, hb9⟩
            have HP9 := Lib.hid (HP8.out.later hb9)
            have hln : ((oT sv k).opns 14).ids.length = mk := by
              rw [HO1.out.2.2]
              have := HMK.out
              omega
            obtain ⟨ov2, cv2, rfl, _, _⟩ := hsl.shape
            rw [hln]
            clear hs hgo hog hb9 HP8 hsl lab a b hln
            go_wp2_with fail
            refine (stknown_any _).mono ?_
            rintro e w10 ⟨rfl, hb10⟩
            have HB := Lib.hid (HP9.out.later hb10).below
            clear hb10 HP9
            go_wp2_with fail
            go_ret
            exact ⟨rfl, HB.out⟩
end Go.Proofs.Ytfdgamlakfkekaa
