/- DERIVED. Walk of narthexlaw17's ReceiverEnds. -/
import Derived.Test.YtebiebcpdjipjaaRcvKnown
import Derived.Test.YtebiebcpdjipjaaRcvEndL
import Derived.Test.YtebiebcpdjipjaaSmall
import Derived.Test.YtebiebcpdjipjaaBook
import Derived.Test.YtebiebcpdjipjaaNum1
namespace Go.Proofs.Ytebiebcpdjipjaa
open Go.RowKit

def EndQ (W w : World) (r : Nat) (P : List Nat) (rs : Bool) (c n i : Nat) : Prop := ∃ s, RMine W w r s ∧ EndSt P rs c n i s
def EndD (W w : World) (r : Nat) (P : List Nat) (rs : Bool) (c : Nat) : Prop := ∃ s, RMine W w r s ∧ EndDone P rs c s
set_option maxRecDepth 100000 in
set_option maxHeartbeats 8000000 in
theorem ends_walk (va vl : Value) (la : List Nat) (L : List Int) (rs : Bool) (code : Nat) (w : World) (ha : Vw encB w w.heap.size va la) (hba : Bys la) (hl : Vw encN w w.heap.size vl L) (hL : ∀ a ∈ L, -9223372036854775808 ≤ a ∧ a ≤ 9223372036854775807) (hco : code < 18446744073709551616) :
    Calls Try.prog 3 #[va, vl, .bool rs, .int .u64 code] w fun e w' => e = .returned (.bool true) ∧ Below w.heap.size w w' := by
  obtain ⟨i0, hi0, hz0, hz1, hz2'⟩ := info_parts infoB
  obtain ⟨oa, lena, capa, rfl, hla, hca, hca2, hva⟩ := kcut_v ha 120 (by omega)
  have hA1 : (la.take 120).length = min lena 120 := by rw [List.length_take]; omega
  have hA2 : Bys (la.take 120) := fun x hx => hba x (List.mem_of_mem_take hx)
  obtain ⟨ol, capl, rfl, hcl1, hcl2⟩ := hl.shape
  clear ha hba
  generalize la.take 120 = A at *
  obtain ⟨na, hna, hna1, hna2⟩ : ∃ na, min lena 120 = na ∧ na ≤ 120 ∧ na ≤ capa := ⟨_, rfl, by omega, by omega⟩
  rw [hna] at hA1 hva
  obtain ⟨n, hnn⟩ : ∃ n, (na + 9) / 10 = n := ⟨_, rfl⟩
  obtain ⟨c, hc⟩ : ∃ c, smallS code = c := ⟨_, rfl⟩
  have hclt : c < 4611686018427387904 := by rw [← hc]; exact smallS_lt code
  have HC := Lib.hid hc
  have hdv : ((na : Int) + 9).tdiv 10 = (n : Int) := by rw [Int.tdiv_eq_ediv_of_nonneg (by omega)]; omega
  have hdv2 : (n : Int).tdiv 2 = ((n / 2 : Nat) : Int) := by rw [Int.tdiv_eq_ediv_of_nonneg (by omega)]; omega
  obtain ⟨n2, hn2⟩ : ∃ n2, n / 2 = n2 := ⟨_, rfl⟩
  rw [hn2] at hdv2
  have HVA := Lib.hid hva
  have HA := Lib.hid (And.intro hA1 hA2)
  have HNA := Lib.hid hna
  have HVL := Lib.hid hl
  have HLO := Lib.hid hL
  clear hva hA1 hA2 hna hl hL hla hc
  generalize hn : L.length = len at *
  have HN := Lib.hid hn
  clear hn
  go_enter Try.func3, Try.ntmps3
  go_wp2_with fail
  refine (rnew_any 6 500 _ (by decide) (by decide)).mono ?_
  rintro e w1 ⟨r, rfl, hm⟩
  have H0 := Lib.hid (show EndQ w w1 r A rs c n 0 from ⟨_, hm, EndSt.new A rs c n⟩)
  clear hm
  go_wp2_with fail
  refine (kcut_q oa lena capa 120 _ hca hca2 (by omega)).mono ?_
  rw [HNA.out]
  rintro e w' ⟨rfl, hw⟩
  obtain rfl := hw
  go_wp2_with fail
  go_loopw [11] (fun i wr => ∃ k : Nat, i = .int .i64 k ∧ k ≤ 2 * n ∧ EndQ w wr r A rs c n k) (fun i _ => 2 * n - (intOf i).toNat)
  case atStart => exact ⟨0, rfl, by omega, H0.out⟩
  case round =>
    obtain ⟨i, rfl, hi, hst⟩ := hrel
    have HST := Lib.hid hst
    clear hst H0
    by_cases hlt : i < 2 * n
    · have hmd : (i : Int).tmod n = ((i % n : Nat) : Int) := by rw [Int.tmod_eq_emod_of_nonneg (by omega)]; omega
      go_upto_if 46 with fail
      go_cut [12] (fun v wx => ∃ k : Nat, v = .int .i64 k ∧ k < n ∧ (n ≤ i → k = i - n) ∧ wx = wr)
      case first =>
        by_cases h1 : i < n
        · by_cases h2 : i < len
          · obtain ⟨a, hak⟩ : ∃ a, L[i]? = some a := ⟨_, List.getElem?_eq_getElem (by rw [HN.out]; exact h2)⟩
            obtain ⟨b, off, rfl, hb, q0⟩ := HVL.out.num hak
            obtain ⟨s, hm, _⟩ := HST.out
            have q1 := cell_keep hm.below hb q0
            have hab := HLO.out a (List.mem_of_getElem? hak)
            have hwb := withinS_bd a 0 (n - 1) (by omega)
            clear q0 hm hak
            go_wp2_with fail
            refine (within_any a 0 (n - 1) _ (by omega) (by omega) (by omega) hab.1 hab.2).mono ?_
            rintro e w' ⟨rfl, hw⟩
            obtain rfl := hw
            generalize withinS a 0 (n - 1) = z at *
            go_wp2_with fail
            go_meet
            case rel => exact ⟨z.toNat, by rw [show ((z.toNat : Nat) : Int) = z by omega], by omega, by omega, rfl⟩
          · go_wp2_with fail
            go_meet
            case rel => exact ⟨i, rfl, h1, by omega, rfl⟩
        · go_wp2_with fail
          go_meet
          case rel => exact ⟨i - n, by rw [show (i : Int) % (n : Int) = ((i - n : Nat) : Int) by rw [← Int.natCast_emod, show i % n = i - n by rw [Nat.mod_eq_sub_mod (by omega), Nat.mod_eq_of_lt (by omega)]]], by omega, by omega, rfl⟩
      case rest =>
        obtain ⟨k, rfl, hk, hik, rfl⟩ := hcut
        obtain ⟨s, hm, hes⟩ := HST.out
        clear HST
        have HM := Lib.hid hm
        have HES := Lib.hid hes
        clear hm hes
        obtain ⟨e, he⟩ : ∃ e, min (10 * k + 10) na = e := ⟨_, rfl⟩
        obtain ⟨kt, hkt⟩ : ∃ kt, 10 * k = kt := ⟨_, rfl⟩
        have hkt2 : kt < na := by omega
        have hke : kt ≤ e := by omega
        have hena : e ≤ na := by omega
        have hkte : e ≤ kt + 10 := by omega
        have hcka : ¬ capa = kt := by omega
        have hk10 : 10 * (k : Int) = (kt : Int) := by omega
        have hV := HVA.out.mid encB_len hke hena
        obtain ⟨fp, hr, hn, hb⟩ := HM.out
        have hV2 := Lib.hid (show VwA encB fp wc (partV oa 1 capa kt e) ((A.drop kt).take (e - kt)) from (hV.below hb).apart hb.size hn)
        have hby := Lib.hid (show Bys ((A.drop kt).take (e - kt)) from fun x hx => HA.out.2 x (List.mem_of_mem_drop (List.mem_of_mem_take hx)))
        unfold partV at hV2
        rw [if_neg hcka, Nat.mul_one] at hV2
        have HR := Lib.hid hr
        have HN := Lib.hid (And.intro hn hb)
        clear hV hr hn hb
        go_upto_region 14 with fail
        go_cut [13] (fun v wx => v = .int .i64 e ∧ wx = wc)
        case first =>
          by_cases hq : na < kt + 10
          · have hei : e = na := by omega
            go_wp2_with fail
            go_meet
            case rel => exact ⟨by rw [hei], rfl⟩
          · have hei : ((kt : Int) + 10) = (e : Int) := by omega
            go_wp2_with fail
            go_meet
            case rel => exact ⟨rfl, rfl⟩
        case rest =>
          obtain ⟨rfl, rfl⟩ := hcut
          have hon := fun (f : Fr) => on_piece (f := f) (e := e) HES.out (by rw [HA.out.1]; omega) (by rw [HA.out.1]; exact hnn) hlt hk hik (by rw [HA.out.1]; exact he)
          rw [HA.out.1, hkt] at hon
          obtain ⟨D, hD, hDl⟩ : ∃ D, (A.drop kt).take (e - kt) = D ∧ D.length = e - kt := ⟨_, rfl, by rw [List.length_take, List.length_drop, HA.out.1]; omega⟩
          rw [hD] at hon hV2 hby
          have HON := Lib.hid hon
          clear hD hon
          obtain ⟨fl, hfl⟩ : ∃ fl, decide (e = na) = fl := ⟨_, rfl⟩
          have hfl2 : ((e : Int) == (na : Int)) = fl := by rw [← hfl]; exact decide_eq_decide.2 (by omega)
          have HFL := Lib.hid hfl
          clear hfl he hkt hkt2 hkte
          go_wp2_with fail
          obtain ⟨h1, h2⟩ := HON.out ⟨8, 6, kt, .slice (Option.map (fun x => x.add kt) oa) (e - kt) (capa - kt), fl, 0, 0, 0, 0, 0, .slice none 0 0, 0, 0, 0, 0, 0, 0, 0, 0⟩ rfl rfl rfl HFL.out.symm
          refine (ron_any r s fp ⟨8, 6, kt, _, fl, 0, 0, 0, 0, 0, .slice none 0 0, 0, 0, 0, 0, 0, 0, 0, 0⟩ _ (e - kt) (capa - kt) D _ (by exact HR.out) (by constructor <;> dsimp only <;> omega) rfl (by exact hV2.out) hby.out hDl (by omega)).mono ?_
          rw [hDl] at h1
          rw [h1]
          rintro x w3 ⟨rfl, hm⟩
          have HM2 := Lib.hid (rm_mine HN.out.1 HN.out.2 hm)
          have HES2 := Lib.hid h2
          have H4 := Lib.hid (show EndQ w w3 r A rs c n (i + 1) from ⟨_, HM2.out, h2⟩)
          generalize s.on _ D = s2 at HM2 HES2
          clear h1 h2 hm HM HES hV2 hby HR HN HON
          cases rs
          · go_wp2_with fail
            go_roundw
            case rel => exact ⟨i + 1, by go_num, by omega, H4.out⟩
            case measure => simp [intOf]; omega
          · by_cases hi2 : i = n2
            · subst hi2
              obtain ⟨fp2, hr, hn, hb⟩ := HM2.out
              have HR := Lib.hid hr
              have HN := Lib.hid (And.intro hn hb)
              clear hr hn hb
              go_wp2_with fail
              refine (small_any code _ hco).mono ?_
              rw [HC.out]
              rintro x w4 ⟨rfl, hb⟩
              have HR4 := Lib.hid (HR.out.below hb)
              have HN4 := Lib.hid (And.intro HN.out.1 (below_call HN.out.2 HN.out.2.size hb))
              clear hb HR HN H4
              go_wp2_with fail
              obtain ⟨h1, h2⟩ := on_reset (f := ⟨4, 6, 0, .slice none 0 0, false, 0, c, na, 0, 0, .slice none 0 0, 0, 0, 0, 0, 0, 0, 0, 0⟩) HES2.out (by rw [HA.out.1]; omega) rfl rfl rfl rfl HA.out.1.symm
              refine (ron_any r s2 fp2 ⟨4, 6, 0, .slice none 0 0, false, 0, c, na, 0, 0, .slice none 0 0, 0, 0, 0, 0, 0, 0, 0, 0⟩ none 0 0 [] _ (by exact HR4.out) (by constructor <;> dsimp only <;> omega) rfl ⟨none, 0, rfl, by simp, by omega, .inl rfl⟩ (by intro x hx; cases hx) rfl (by omega)).mono ?_
              rw [h1]
              rintro x w5 ⟨rfl, hm⟩
              have H5 := Lib.hid (show EndQ w w5 r A true c n (i + 1) from ⟨_, rm_mine HN4.out.1 HN4.out.2 hm, h2⟩)
              clear h1 h2 hm HR4 HN4 HM2 HES2
              go_wp2_with fail
              go_roundw
              case rel => exact ⟨i + 1, by go_num, by omega, H5.out⟩
              case measure => simp [intOf]; omega
            · have hi3 : ¬ ((i : Int) = n2) := by omega
              go_wp2_with fail
              go_roundw
              case rel => exact ⟨i + 1, by go_num, by omega, H4.out⟩
              case measure => simp [intOf]; omega
    · obtain rfl : i = 2 * n := by omega
      obtain ⟨s, hm, hes⟩ := HST.out
      have HM := Lib.hid hm
      have HES := Lib.hid hes
      clear hm hes HST
      go_upto_region 20 with fail
      go_cut [104] (fun v wx => v = .bool false ∧ EndD w wx r A rs c)
      case first =>
        by_cases hn0 : n = 0
        · subst hn0
          have hna0 : A = [] := List.eq_nil_of_length_eq_zero (by rw [HA.out.1]; omega)
          obtain ⟨fp, hr, hn, hb⟩ := HM.out
          have HR := Lib.hid hr
          have HN := Lib.hid (And.intro hn hb)
          clear hr hn hb
          go_wp2_with fail
          obtain ⟨h1, h2⟩ := on_empty (f := ⟨8, 6, 0, .slice none 0 0, true, 0, 0, 0, 0, 0, .slice none 0 0, 0, 0, 0, 0, 0, 0, 0, 0⟩) hna0 HES.out rfl rfl rfl rfl
          refine (ron_any r s fp ⟨8, 6, 0, .slice none 0 0, true, 0, 0, 0, 0, 0, .slice none 0 0, 0, 0, 0, 0, 0, 0, 0, 0⟩ none 0 0 [] _ (by exact HR.out) (by constructor <;> dsimp only <;> omega) rfl ⟨none, 0, rfl, by simp, by omega, .inl rfl⟩ (by intro x hx; cases hx) rfl (by omega)).mono ?_
          rw [h1]
          rintro x w5 ⟨rfl, hm⟩
          have H5 := Lib.hid (show EndD w w5 r A rs c from ⟨_, rm_mine HN.out.1 HN.out.2 hm, h2⟩)
          clear h1 h2 hm HR HN HM HES
          go_wp2_with fail
          go_meet
          case rel => exact ⟨rfl, H5.out⟩
        · have H5 := Lib.hid (show EndD w wr r A rs c from ⟨_, HM.out, HES.out.done (by rw [HA.out.1]; exact hnn) (by omega)⟩)
          clear HM HES
          go_wp2_with fail
          go_meet
          case rel => exact ⟨by simp, H5.out⟩
      case rest =>
        obtain ⟨rfl, s2, hm, hd⟩ := hcut
        clear HM HES
        obtain ⟨fp, hr, hn, hb⟩ := hm
        have HR := Lib.hid hr
        have HN := Lib.hid (And.intro hn hb)
        clear hr hn hb
        rcases hd with ⟨q1, rfl, q2⟩ | hall
        · go_wp2_with fail
          refine (rread_reset r s2 fp 1000 _ (by exact HR.out) q1).mono ?_
          rw [q2]
          rintro x w5 ⟨rfl, hm⟩
          have HM5 := Lib.hid (rm_mine HN.out.1 HN.out.2 hm)
          clear hm HR HN
          obtain ⟨fp5, hr, hn, hb⟩ := HM5.out
          have HR5 := Lib.hid hr
          clear hr hn hb
          go_wp2_with fail
          refine (rread_over r _ fp5 1000 _ (by exact HR5.out) (.inr rfl)).mono ?_
          rintro x w6 ⟨rfl, q6, rfl⟩
          have HM6 := Lib.hid (HM5.out.drewN q6)
          have HR6 := Lib.hid (HR5.out.drewN q6)
          generalize w5.drewN q6 = w6 at *
          clear HM5 HR5
          go_wp2_with fail
          refine (small_any code _ hco).mono ?_
          rw [HC.out]
          rintro x w7 ⟨rfl, hb⟩
          have HM7 := Lib.hid (HM6.out.later hb)
          have HR7 := Lib.hid (HR6.out.below hb)
          clear hb HM6 HR6
          go_wp2_with fail
          refine (rstate_q r _ fp5 _ (by exact HR7.out)).mono ?_
          rintro x w8 ⟨rfl, q8, rfl⟩
          have HM8 := Lib.hid (HM7.out.drewN q8)
          generalize w7.drewN q8 = w8 at *
          clear HM7 HR7
          go_wp2_with fail
          refine (rknown_any _).mono ?_
          rintro x w9 ⟨rfl, hb⟩
          have HB9 := Lib.hid (HM8.out.later hb).below
          clear hb HM8
          go_wp2_with fail
          go_ret
          exact ⟨rfl, HB9.out⟩
        · obtain ⟨n1, n2', n3⟩ := hall.read (by rw [HA.out.1]; omega)
          rw [HA.out.1] at n1 n2' n3
          have hst := hall.st
          clear hall
          go_wp2_with fail
          refine (rread_any r s2 fp 1000 _ (by exact HR.out) (by omega) (by omega) (by omega) n1).mono ?_
          rw [n2', n3, if_neg (fun x => by cases x.2)]
          rintro x w5 ⟨v5, fp5, rfl, hr, hw, hv⟩
          have HM5 := Lib.hid (rm_mine HN.out.1 HN.out.2 ⟨fp5, hr, hw⟩)
          have HR5 := Lib.hid hr
          have HV5 := Lib.hid hv.rds
          have hst5 : (s2.tk na).st = 4 := by unfold RS.tk; rw [n3]; rfl
          clear hr hw hv HR HN n1 n2' n3 hst
          generalize s2.tk na = s5 at *
          go_wp2_with fail
          refine (rread_over r s5 fp5 1000 _ (by exact HR5.out) (.inl hst5)).mono ?_
          rintro x w6 ⟨rfl, q6, rfl⟩
          have HM6 := Lib.hid (HM5.out.drewN q6)
          have HR6 := Lib.hid (HR5.out.drewN q6)
          have hs1 := (show Rds (w5.drewN q6) v5 A from HV5.out).str (P := Try.prog) (src := 22) (dst := 9) Try.underlying22 Try.underlying5 Try.underlying9
          have hs2 := (HVA.out.below HM6.out.below).rds.str (P := Try.prog) (src := 22) (dst := 9) Try.underlying22 Try.underlying5 Try.underlying9
          generalize w5.drewN q6 = w6 at *
          clear HM5 HR5 HV5
          go_wp2_with fail
          refine (rstate_q r s5 fp5 _ (by exact HR6.out)).mono ?_
          rw [hst5]
          rintro x w8 ⟨rfl, q8, rfl⟩
          have HM8 := Lib.hid (HM6.out.drewN q8)
          generalize w6.drewN q8 = w8 at *
          clear HM6 HR6 hs1 hs2
          go_wp2_with fail
          refine (rknown_any _).mono ?_
          rintro x w9 ⟨rfl, hb⟩
          have HB9 := Lib.hid (HM8.out.later hb).below
          clear hb HM8
          go_wp2_with fail
          go_ret
          exact ⟨rfl, HB9.out⟩
end Go.Proofs.Ytebiebcpdjipjaa
