/- DERIVED. Walk of narthexlaw15's OutbufRoom. -/
import Derived.Test.YtkebjfaphmamjaaRoomL
import Derived.Test.YtkebjfaphmamjaaBook
import Derived.Laws.MakeOwn
import Derived.Laws.OwnMore
namespace Go.Proofs.Ytkebjfaphmamjaa
open Go.RowKit

theorem make_bytes (n : Nat) (h : n ≤ 1000) : ∃ Z : Array Value, (∀ w : World, (Instr.makeSlice 28 (.int .i64 (n : Int)) (.int .i64 (n : Int))).run Try.prog w = .ok (.slice (some ⟨w.heap.size, 0, none⟩) n n) (w.alloc (.cells Z 5))) ∧ Z.toList = flat encB (List.replicate n 0) := by
  obtain ⟨i0, hi0, hz0, hz1, hz2'⟩ := info_parts infoB
  refine ⟨madeCells (Value.int .u8 0).cells n, fun w => ?_, ?_⟩
  · have := run_make (P := Try.prog) w 28 5 i0 _ Try.underlying28 hi0 hz0 .i64 .i64 n n (by omega) (by omega) (by rw [hz2']; omega) (by omega)
    rw [this, hz1]
    simp
  · show (madeCells #[Value.int .u8 0] n).toList = _
    rw [toList_madeCells_one, flatB, List.map_replicate]
    rfl
def encN (n : Int) : List Value := [.int .i64 n]
theorem Vw.num {w : World} {B : Nat} {oa : Option Addr} {n cap : Nat} {xs : List Int} (h : Vw encN w B (.slice oa n cap) xs) {i : Nat} {x : Int} (hx : xs[i]? = some x) :
    ∃ b off, oa = some ⟨b, off, none⟩ ∧ b < B ∧ w.cell? ⟨b, off + i, none⟩ = some (.int .i64 x) := by
  obtain ⟨b, off, h1, h2, h3⟩ := h.el (k := 1) (fun _ => rfl) hx
  refine ⟨b, off, h1, h2, ?_⟩
  have := h3 0 (by omega)
  simpa [encN] using this
def I64 (n : Int) : Prop := -9223372036854775808 ≤ n ∧ n ≤ 9223372036854775807
def Rm (W w : World) (b t bs e : Nat) : Prop := ∃ s, RS s t bs e ∧ OMine W w b s
theorem Rm.later {W w w' : World} {b t bs e : Nat} (h : Rm W w b t bs e) (hb : Below w.heap.size w w') : Rm W w' b t bs e := by
  obtain ⟨s, h1, h2⟩ := h
  exact ⟨s, h1, h2.later hb⟩
theorem Rm.below {W w : World} {b t bs e : Nat} (h : Rm W w b t bs e) : Below W.heap.size W w := by
  obtain ⟨s, h1, h2⟩ := h
  exact h2.below

set_option maxRecDepth 100000 in
set_option maxHeartbeats 4000000 in
theorem room_walk (va vb : Value) (la lb : List Int) (w : World) (ha : Vw encN w w.heap.size va la) (hA : ∀ x ∈ la, I64 x) (hb : Vw encN w w.heap.size vb lb) (hB : ∀ x ∈ lb, I64 x) :
    Calls Try.prog 3 #[va, vb] w fun e w' => e = .returned (.bool true) ∧ Below w.heap.size w w' := by
  obtain ⟨oa, capa, rfl, hca1, hca2⟩ := ha.shape
  obtain ⟨ob, capb, rfl, hcb1, hcb2⟩ := hb.shape
  have HVA := Lib.hid ha
  have HVB := Lib.hid hb
  have HA := Lib.hid hA
  have HB := Lib.hid hB
  clear ha hb hA hB
  generalize hna : la.length = na at *
  generalize hnb : lb.length = nb at *
  have HNA := Lib.hid hna
  have HNB := Lib.hid hnb
  clear hna hnb
  go_enter Try.func3, Try.ntmps3
  go_wp2_with fail
  refine (onew_any _).mono ?_
  rintro e w1 ⟨b, fp1, rfl, hi, hn, hbb⟩
  have H0 := Lib.hid (show Rm w w1 b 0 0 0 from ⟨_, RS.zero, fp1, hi, hn, hbb⟩)
  clear hi hn hbb
  go_wp2_with fail
  go_loopw [6, 7, 8] (fun t bs i wr => ∃ k T Bs : Nat, i = .int .i64 k ∧ t = .int .i64 T ∧ bs = .int .i64 Bs ∧ k ≤ 30 ∧ T ≤ 900 * k ∧ Bs ≤ T ∧ T ≤ Bs + 2048 ∧ Rm w wr b T Bs T) (fun _ _ i _ => 30 - (intOf i).toNat)
  case atStart => exact ⟨0, 0, 0, rfl, rfl, rfl, by omega, by omega, by omega, by omega, H0.out⟩
  case round =>
    obtain ⟨k, T, Bs, rfl, rfl, rfl, hk, hT, hBT, hTB, hst⟩ := hrel
    have HST := Lib.hid hst
    clear hst H0
    obtain ⟨D, hD, hD2⟩ : ∃ D : Nat, (T : Int) - (Bs : Int) = (D : Int) ∧ T - Bs = D := ⟨T - Bs, by omega, rfl⟩
    obtain ⟨R, hR, hR2⟩ : ∃ R : Nat, (2048 : Int) - (D : Int) = (R : Int) ∧ 2048 - D = R := ⟨2048 - D, by omega, rfl⟩
    have HD2 := Lib.hid hD2
    have HR2 := Lib.hid hR2
    have hDb : D ≤ 2048 := by omega
    have hRb : R ≤ 2048 := by omega
    have hTb : T ≤ 27000 := by omega
    clear hD2 hR2
    by_cases hgo : k < na ∧ k < 30
    · obtain ⟨hlt, hlt2⟩ := hgo
      obtain ⟨x, hx⟩ : ∃ x, la[k]? = some x := ⟨_, List.getElem?_eq_getElem (by rw [HNA.out]; exact hlt)⟩
      obtain ⟨c, ofc, rfl, hc, q0⟩ := HVA.out.num hx
      obtain ⟨hx1, hx2⟩ := HA.out x (List.mem_of_getElem? hx)
      have q0 := cell_keep HST.out.below hc q0
      have hw1 := withinS_bd x 0 900 (by omega)
      obtain ⟨n, hn, hn9⟩ : ∃ n : Nat, withinS x 0 900 = (n : Int) ∧ n ≤ 900 := ⟨(withinS x 0 900).toNat, by omega, by omega⟩
      have HN := Lib.hid hn
      clear hw1 hn hx
      obtain ⟨Z, hZ, hZl⟩ := make_bytes n (by omega)
      have HZL := Lib.hid hZl
      clear hZl
      obtain ⟨M, hM, hMn, hMR⟩ : ∃ M, min n R = M ∧ M ≤ n ∧ M ≤ R := ⟨_, rfl, by omega, by omega⟩
      have HM := Lib.hid hM
      obtain ⟨T2, hT2, hT22⟩ : ∃ T2 : Nat, (T : Int) + (M : Int) = (T2 : Int) ∧ T + M = T2 := ⟨T + M, by omega, rfl⟩
      have HT2 := Lib.hid hT22
      have hT2b : T2 ≤ 27000 := by omega
      clear hT22
      obtain ⟨s, hrs, fp, hO, hnw, hbl⟩ := HST.out
      have HRS := Lib.hid hrs
      have HO := Lib.hid hO
      have HNW := Lib.hid hnw
      have HBL := Lib.hid hbl
      clear hrs hO hnw hbl HST
      go_wp2_with fail
      refine (within_any x 0 900 _ (by omega) (by omega) (by omega) (by omega) (by omega)).mono ?_
      rw [HN.out]
      rintro e w2 ⟨rfl, hw⟩
      obtain rfl := hw
      go_wp2_with fail
      refine (oroom_q b s fp _ (by exact HO.out) (by rw [HRS.out.len, HRS.out.base]; omega)).mono ?_
      rw [HRS.out.room, HD2.out, HR2.out]
      rintro e w2 ⟨rfl, q, rfl⟩
      have HO2 := Lib.hid (HO.out.drewN q)
      have HBL2 := Lib.hid (below_drewN HBL.out q)
      clear q0
      generalize wr.drewN q = w2 at *
      go_wp2_with fail
      refine (owrite_any b s fp _ (List.replicate n 0) _ (by exact HO2.out.below ((Below.refl _ _).alloc (Nat.le_refl _) _)) (by exact lit_vw (alloc_at _ _) HZL.out (List.length_replicate).symm (Nat.le_refl _) (by omega)) (Nat.le_refl _) (by intro y hy; rw [List.mem_replicate] at hy; omega) (by rw [HRS.out.len, HRS.out.base]; omega) (by rw [List.length_replicate]; omega) (by rw [HRS.out.len]; omega)).mono ?_
      rw [HRS.out.room, HD2.out, HR2.out, List.length_replicate, HM.out]
      rintro e w3 ⟨rfl, hm⟩
      have hm3 := om_mine HNW.out (HBL2.out.alloc HBL2.out.size _) hm
      have hrw : RS (s.write (List.replicate n 0)) T2 Bs T := by
        have := HRS.out.write (d := List.replicate n 0) List.length_replicate (show 2048 - (T - Bs) = R by rw [HD2.out]; exact HR2.out)
        rw [HM.out, HT2.out] at this
        exact this
      have H3 := Lib.hid (show Rm w w3 b T2 Bs T from ⟨_, hrw, hm3⟩)
      have hmin : (n < R ∧ M = n) ∨ (R < n ∧ M = R) ∨ (n = R ∧ M = n) := by omega
      have HB2 := Lib.hid (show T2 ≤ T + 900 ∧ Bs ≤ T2 ∧ T2 ≤ Bs + 2048 ∧ T2 ≤ 900 * (k + 1) ∧ T ≤ T2 by have := HD2.out; have := HR2.out; have := HT2.out; omega)
      clear hm hm3 hrw HO2 HBL2 HO HRS HNW HBL hZ
      go_upto_region 12 with fail
      go_cut [6] (fun t wx => t = .int .i64 T2 ∧ wx = w3)
      case first =>
        rcases hmin with ⟨q1, q2⟩ | ⟨q1, q2⟩ | ⟨q1, q2⟩
        all_goals subst q2
        all_goals try subst q1
        all_goals clear hM
        all_goals go_wp2_with fail
        all_goals go_meet
        all_goals exact ⟨rfl, rfl⟩
      case rest =>
        obtain ⟨rfl, rfl⟩ := hcut
        generalize wc = w3 at *
        clear hmin hM hMn hMR
        go_upto_block 2 with fail
        go_cut [] (fun wx => Rm w wx b T2 Bs T2)
        case first =>
          obtain ⟨hb1, hb2, hb3, hb4, hb5⟩ := HB2.out
          go_wp2_with fail
          go_loopw [11] (fun i wr => ∃ j S : Nat, i = .int .i64 j ∧ j ≤ 20 ∧ S ≤ T2 ∧ T2 ≤ S + (900 - 512 * j) ∧ Bs ≤ S ∧ Rm w wr b T2 Bs S) (fun i _ => 20 - (intOf i).toNat)
          case atStart => exact ⟨0, T, rfl, by omega, by omega, by omega, by omega, H3.out⟩
          case round =>
            obtain ⟨j, S, rfl, hj, hS1, hS2, hS3, hst⟩ := hrel
            have HST := Lib.hid hst
            clear hst H3
            by_cases hj20 : j < 20
            · obtain ⟨s, hrs, fp, hO, hnw, hbl⟩ := HST.out
              by_cases hS : S < T2
              · obtain ⟨S2, hS4, hS5⟩ : ∃ S2, min T2 (S + 512) = S2 ∧ S < S2 := ⟨_, rfl, by omega⟩
                go_wp2_with fail
                refine (onext_yes b s fp 512 1099511627776 S2 _ (by exact hO) (by omega) (by rw [hrs.len]; omega) hrs.ys (by rw [hrs.base, hrs.sent]; exact hS3) (by rw [hrs.sent]; exact hS5) (by rw [hrs.len, hrs.sent]; exact hS4) hrs.ende (by omega)).mono ?_
                rintro e w5 ⟨v, og, rfl, hm, _, _⟩
                have H5 := Lib.hid (show Rm w w5 b T2 Bs S2 from ⟨_, hrs.sends, om_mine hnw hbl hm⟩)
                clear hrs hO hnw hbl hm HST
                go_wp2_with fail
                go_roundw
                case rel => exact ⟨j + 1, S2, by go_num, by omega, by omega, by omega, by omega, H5.out⟩
                case measure => simp [intOf]; omega
              · obtain rfl : S = T2 := by omega
                go_wp2_with fail
                refine (onext_no b s fp 512 1099511627776 _ (by exact hO) (by omega) (by rw [hrs.len]; omega) hrs.ys (by rw [hrs.sent, hrs.len]) hrs.ende (by omega)).mono ?_
                rintro e w5 ⟨rfl, hb5⟩
                have H5 := Lib.hid (HST.out.later hb5)
                clear hrs hO hnw hbl hb5 HST
                go_wp2_with fail
                go_meet
                case rel => exact H5.out
            · obtain rfl : S = T2 := by omega
              go_wp2_with fail
              go_meet
              case rel => exact HST.out
        case rest =>
          have HST := Lib.hid hcut
          clear hcut H3
          generalize wc = w4 at *
          obtain ⟨hb1, hb2, hb3, hb4, hb5⟩ := HB2.out
          obtain ⟨s2, hrs, fp2, hO, hnw, hbl⟩ := HST.out
          have hwt : IntKind.u64.wrap (T2 : Int) = T2 := IntWalk.u64_in _ (by omega)
          have hwb : IntKind.u64.wrap (Bs : Int) = Bs := IntWalk.u64_in _ (by omega)
          go_wp2_with fail
          refine (osent_q b s2 fp2 _ (by exact hO)).mono ?_
          rw [hrs.sent]
          rintro e w5 ⟨rfl, q, rfl⟩
          have H5 := Lib.hid (HST.out.later (below_drewN (Below.refl _ _) q))
          clear hrs hO hnw hbl HST
          generalize w4.drewN q = w5 at *
          by_cases hka : k < nb
          · obtain ⟨y, hy⟩ : ∃ y, lb[k]? = some y := ⟨_, List.getElem?_eq_getElem (by rw [HNB.out]; exact hka)⟩
            obtain ⟨c2, of2, rfl, hc2, q2⟩ := HVB.out.num hy
            obtain ⟨hy1, hy2⟩ := HB.out y (List.mem_of_getElem? hy)
            have q2 := cell_keep H5.out.below hc2 q2
            obtain ⟨E, hE, hE2⟩ : ∃ E : Nat, (T2 : Int) - (Bs : Int) = (E : Int) ∧ T2 - Bs = E := ⟨T2 - Bs, by omega, rfl⟩
            have hw2 := withinS_bd y 0 E (by omega)
            obtain ⟨kk, hkk, hkE⟩ : ∃ kk : Nat, withinS y 0 E = (kk : Int) ∧ kk ≤ E := ⟨(withinS y 0 E).toNat, by omega, by omega⟩
            have HKK := Lib.hid hkk
            have hle : Bs + kk ≤ T2 := by omega
            have hE3 : E ≤ 27000 := by omega
            obtain ⟨B2, hB2, hB22⟩ : ∃ B2 : Nat, (Bs : Int) + (kk : Int) = (B2 : Int) ∧ Bs + kk = B2 := ⟨Bs + kk, by omega, rfl⟩
            have HBB2 := Lib.hid hB22
            have hb2le : B2 ≤ T2 := by omega
            have hb2ge : T2 ≤ B2 + 2048 := by omega
            clear hw2 hkk hE2 hB22 hy
            go_wp2_with fail
            refine (within_any y 0 E _ (by omega) (by omega) (by omega) (by omega) (by omega)).mono ?_
            rw [HKK.out]
            rintro e w6 ⟨rfl, hw⟩
            obtain rfl := hw
            obtain ⟨s3, hrs, fp3, hO, hnw, hbl⟩ := H5.out
            have HRS := Lib.hid hrs
            go_wp2_with fail
            refine (oack_any b s3 fp3 Bs kk (pre B2) B2 _ (by exact hO) (by omega) (by omega) (by omega) HRS.out.ys (by rw [← HBB2.out]; exact HRS.out.ackX hle) (pre_norm (by omega)) (pre_len _) (by rw [HRS.out.len]; exact pre_at hb2le) (by rw [HRS.out.base]; omega) (by rw [HRS.out.len]; exact hb2le)).mono ?_
            rintro e w6 ⟨rfl, hm⟩
            have H6 := Lib.hid (show Rm w w6 b T2 B2 T2 from ⟨s3.acks (pre B2) B2, by have := hrs.acks (k := kk); rw [HBB2.out] at this; exact this, om_mine hnw hbl hm⟩)
            clear hrs hO hnw hbl hm H5 HRS
            go_wp2_with fail
            go_roundw
            case rel => exact ⟨k + 1, T2, B2, by go_num, rfl, rfl, by omega, by omega, by omega, by omega, H6.out⟩
            case measure => simp [intOf]; omega
          · go_wp2_with fail
            go_roundw
            case rel => exact ⟨k + 1, T2, Bs, by go_num, rfl, rfl, by omega, by omega, by omega, by omega, H5.out⟩
            case measure => simp [intOf]; omega
    · obtain ⟨s, hrs, fp, hO, hnw, hbl⟩ := HST.out
      have hwt : IntKind.u64.wrap (T : Int) = T := IntWalk.u64_in _ (by omega)
      have hend : (k < na ∧ ¬ k < 30) ∨ ¬ k < na := by omega
      rcases hend with ⟨q1, q2⟩ | q1
      all_goals clear hgo
      all_goals go_wp2_with fail
      all_goals refine (oroom_q b s fp _ (by exact hO) (by rw [hrs.len, hrs.base]; omega)).mono ?_
      all_goals rw [hrs.room, HD2.out, HR2.out]
      all_goals rintro e w2 ⟨rfl, q, rfl⟩
      all_goals have HST2 := Lib.hid (HST.out.later (below_drewN (Below.refl _ _) q))
      all_goals have HO2 := Lib.hid (hO.drewN q)
      all_goals generalize wr.drewN q = w2 at *
      all_goals go_wp2_with fail
      all_goals refine (olen_q b s fp _ (by exact HO2.out)).mono ?_
      all_goals rw [hrs.len]
      all_goals rintro e w3 ⟨rfl, q3, rfl⟩
      all_goals have HST3 := Lib.hid (HST2.out.later (below_drewN (Below.refl _ _) q3))
      all_goals clear hrs hO hnw hbl HO2 HST2
      all_goals generalize w2.drewN q3 = w3 at *
      all_goals go_wp2_with fail
      all_goals refine (known_any _).mono ?_
      all_goals rintro e w4 ⟨rfl, hb4⟩
      all_goals go_wp2_with fail
      all_goals go_ret
      all_goals exact ⟨rfl, (HST3.out.later hb4).below⟩
end Go.Proofs.Ytkebjfaphmamjaa
