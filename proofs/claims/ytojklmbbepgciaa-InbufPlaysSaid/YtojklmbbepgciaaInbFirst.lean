/- DERIVED. Walk of narthexlaw14's InbufFirst. -/
import Derived.Test.YtojklmbbepgciaaInbKnown
import Derived.Test.YtojklmbbepgciaaBook
namespace Go.Proofs.Ytojklmbbepgciaa
open Go.RowKit

theorem take_bys {l : List Nat} (h : Bys l) (n : Nat) : Bys (l.take n) := fun x hx => h x (List.mem_of_mem_take hx)
theorem nil_vwa (fp : Nat → Prop) (w : World) : VwA encB fp w (.slice none 0 0) [] := ⟨none, 0, rfl, by simp, by omega, .inl rfl⟩
theorem Mine.view {W w : World} {b : Nat} {s : IB} {fp : Nat → Prop} {v : Value} {xs : List Nat} (h : Mine W w b s fp) (hv : Vw encB W W.heap.size v xs) : VwA encB fp w v xs :=
  (hv.below h.below).apart h.below.size h.new

set_option maxRecDepth 100000 in
set_option maxHeartbeats 800000 in
theorem first_walk (va vb : Value) (la lb : List Nat) (off : Int) (far : Nat) (w : World) (ha : Vw encB w w.heap.size va la) (hb : Vw encB w w.heap.size vb lb) (hba : Bys la) (hbb : Bys lb) (ho1 : -9223372036854775808 ≤ off) (ho2 : off ≤ 9223372036854775807) (hfar : far < 18446744073709551616) :
    Calls Try.prog 6 #[va, vb, .int .i64 off, .int .u64 far] w fun e w' => e = .returned (.bool true) ∧ Below w.heap.size w w' := by
  obtain ⟨i0, hi0, hz0, hz1, hz2'⟩ := info_parts infoB
  obtain ⟨oa, lena, capa, rfl, hla, hca, hca2, hva⟩ := kcut_v ha 60 (by omega)
  obtain ⟨ob, lenb, capb, rfl, hlb, hcb, hcb2, hvb⟩ := kcut_v hb 60 (by omega)
  have hA1 : (la.take 60).length = min lena 60 := by rw [List.length_take]; omega
  have hB1 : (lb.take 60).length = min lenb 60 := by rw [List.length_take]; omega
  have hA2 := take_bys hba 60
  have hB2 := take_bys hbb 60
  clear ha hb hba hbb
  generalize la.take 60 = A at *
  generalize lb.take 60 = B at *
  obtain ⟨na, hna, hna1, hna2⟩ : ∃ na, min lena 60 = na ∧ na ≤ 60 ∧ na ≤ capa := ⟨_, rfl, by omega, by omega⟩
  obtain ⟨nb, hnb, hnb1, hnb2⟩ : ∃ nb, min lenb 60 = nb ∧ nb ≤ 60 ∧ nb ≤ capb := ⟨_, rfl, by omega, by omega⟩
  rw [hna] at hA1 hva
  rw [hnb] at hB1 hvb
  have hwb := withinS_bd off 0 na (by omega)
  obtain ⟨k, hk, hk1⟩ : ∃ k : Nat, withinS off 0 na = (k : Int) ∧ k ≤ na := ⟨(withinS off 0 na).toNat, by omega, by omega⟩
  obtain ⟨r1, r2, hok⟩ := two_ok A B (k := k) (by omega) (by omega) (by omega) hA2 hB2
  have hrd := two_rdy A B (k := k) (by omega)
  have hhi := two_hi A B k
  have hout := two_out A B (k := k) (by omega)
  rw [hA1, hB1] at hrd hhi hout
  obtain ⟨hg, hhg, hhg2⟩ : ∃ hg, max na (k + nb) = hg ∧ hg ≤ 120 := ⟨_, rfl, by omega⟩
  obtain ⟨y, hy1, hy2⟩ : ∃ y : Nat, (far : Int).tmod 1000 = y ∧ y < 1000 := ⟨far % 1000, by rw [Int.tmod_eq_emod_of_nonneg (by omega)]; omega, by omega⟩
  rw [hhg] at hrd hhi hout
  have r3 : (two A B k).err (2049 + y) 1 true = 23 := two_over A B k (by omega) (by omega) (by omega)
  have r4 : 0 < hg → (two A B k).err 0 0 true = 30 := fun h => two_final A B k (by omega)
  have e1 : IB.zero.add 0 A false = IB.zero.put 0 A false := by unfold IB.add; rw [if_pos r1]
  have e2 : (IB.zero.put 0 A false).add k B false = two A B k := by unfold IB.add; rw [if_pos r2]; rfl
  have e3 : (two A B k).add (2049 + y) [1] true = two A B k := by unfold IB.add; rw [if_neg (by rw [show ([1] : List Nat).length = 1 from rfl, r3]; decide)]
  have e4 : 0 < hg → (two A B k).add 0 [] true = two A B k := fun h => by unfold IB.add; rw [if_neg (by rw [show ([] : List Nat).length = 0 from rfl, r4 h]; decide)]
  have e5 : (two A B k).num 1000 = hg := by unfold IB.num; rw [hrd]; omega
  have e6 : ((two A B k).take hg).last = false := rfl
  have e7 : (two A B k).kn = false := rfl
  have HVA := Lib.hid hva
  have HVB := Lib.hid hvb
  have HA := Lib.hid (And.intro hA1 hA2)
  have HB := Lib.hid (And.intro hB1 hB2)
  have HK := Lib.hid hk
  have HNA := Lib.hid hna
  have HNB := Lib.hid hnb
  have HHG := Lib.hid hhg
  have R := Lib.hid (And.intro r1 (And.intro r2 (And.intro r3 r4)))
  have E := Lib.hid (And.intro e1 (And.intro e2 (And.intro e3 (And.intro e4 (And.intro e5 (And.intro e6 e7))))))
  have T := Lib.hid (And.intro hrd (And.intro hhi hout))
  clear hva hvb hA1 hA2 hB1 hB2 hwb hk hna hnb hhg r1 r2 r3 r4 e1 e2 e3 e4 e5 e6 e7 hrd hhi hout hok hla hlb
  by_cases hgt : na < k + nb
  · have hgg : hg = k + nb := by have := HHG.out; omega
    have HGG := Lib.hid hgg
    have hpos : 0 < hg := by omega
    obtain ⟨bb, ofb, rfl⟩ : ∃ bb ofb, ob = some ⟨bb, ofb, none⟩ := by
      obtain ⟨x, hx⟩ : ∃ x, B[0]? = some x := ⟨_, List.getElem?_eq_getElem (by rw [HB.out.1]; omega)⟩
      obtain ⟨bb, ofb, h, _⟩ := HVB.out.byte hx
      exact ⟨bb, ofb, h⟩
    obtain ⟨d, hd1, hd2⟩ : ∃ d : Nat, (na : Int) - (k : Int) = (d : Int) ∧ na - k = d := ⟨na - k, by omega, rfl⟩
    have hd3 : d < nb := by omega
    have hd4 : d < capb := by omega
    have HVD := Lib.hid (HVB.out.part encB_len d (nb - d) (capb - d) (by rw [HB.out.1]; omega) (by omega) (by omega))
    have HDL := Lib.hid (show ((B.drop d).take (nb - d)).length = nb - d from by rw [List.length_take, List.length_drop, HB.out.1]; omega)
    have HDE := Lib.hid (show (B.drop d).take (nb - d) = B.drop (na - k) from by rw [hd2, List.take_of_length_le (by rw [List.length_drop, HB.out.1]; omega)])
    rw [Nat.mul_one] at HVD
    clear hd2
    have hky : na < hg := by omega
    have hkk : (k : Int) + (nb : Int) = (hg : Int) := by omega
    clear hgg
    go_enter Try.func6, Try.ntmps6
    go_wp2_with fail
    refine (bnew_any _).mono ?_
    rintro e w1 ⟨b, fp1, rfl, hi, hn, hb⟩
    have H1 := Lib.hid (show Mine w w1 b IB.zero fp1 from ⟨hi, hn, hb⟩)
    clear hi hn hb
    go_wp2_with fail
    refine (kcut_q oa lena capa 60 _ hca hca2 (by omega)).mono ?_
    rw [HNA.out]
    rintro e w' ⟨rfl, rfl⟩
    go_wp2_with fail
    refine (kcut_q (some ⟨bb, ofb, none⟩) lenb capb 60 _ hcb hcb2 (by omega)).mono ?_
    rw [HNB.out]
    rintro e w' ⟨rfl, rfl⟩
    go_wp2_with fail
    refine (within_any off 0 na _ (by omega) (by omega) (by omega) (by omega) (by omega)).mono ?_
    rw [HK.out]
    rintro e w2 ⟨rfl, hw⟩
    obtain rfl := hw
    go_wp2_with fail
    refine (badd_e b IB.zero _ fp1 0 _ A false _ (by exact H1.out.buf) (by exact H1.out.view HVA.out) HA.out.2 (by decide) R.out.1 E.out.1).mono ?_
    rintro e w2 ⟨rfl, fp2, hi, hw⟩
    have H2 := Lib.hid (H1.out.went hi hw)
    clear hi hw H1
    go_wp2_with fail
    refine (badd_e b _ _ fp2 k _ B false _ (by exact H2.out.buf) (by exact H2.out.view HVB.out) HB.out.2 (by omega) R.out.2.1 E.out.2.1).mono ?_
    rintro e w3 ⟨rfl, fp3, hi, hw⟩
    have H3 := Lib.hid (H2.out.went hi hw)
    clear hi hw H2
    generalize hS : two A B k = S at *
    have HS := Lib.hid hS
    clear hS
    go_wp2_with fail
    refine (bhigh_q b S fp3 _ (by exact H3.out.buf)).mono ?_
    rw [T.out.2.1]
    rintro e w' ⟨rfl, q, rfl⟩
    have H4 := Lib.hid (H3.out.drewN q)
    clear H3
    generalize w3.drewN q = w4 at *
    go_wp2_with fail
    refine (bRdy_any b S fp3 _ (by exact H4.out.buf)).mono ?_
    rw [T.out.1]
    rintro e w5 ⟨rfl, hb⟩
    have H5 := Lib.hid (H4.out.later hb)
    clear hb H4
    go_wp2_with fail
    refine (badd_e b S S fp3 (2049 + y) _ [1] true _ (by exact (H5.out.alloc _).buf) (by exact lit_vwa (alloc_at _ _) rfl H5.out.fresh rfl (by omega) (by omega)) (by unfold Bys; decide) (by omega) R.out.2.2.1 E.out.2.2.1).mono ?_
    rintro e w6 ⟨rfl, fp6, hi, hw⟩
    have H6 := Lib.hid ((H5.out.alloc _).went hi hw)
    clear hi hw H5
    go_wp2_with fail
    refine (badd_e b S S fp6 0 _ [] true _ (by exact H6.out.buf) (by exact nil_vwa fp6 w6) (by unfold Bys; simp) (by omega) (R.out.2.2.2 hpos) (E.out.2.2.2.1 hpos)).mono ?_
    rintro e w7 ⟨rfl, fp7, hi, hw⟩
    have H7 := Lib.hid (H6.out.went hi hw)
    clear hi hw H6
    go_wp2_with fail
    refine (bhigh_q b S fp7 _ (by exact H7.out.buf)).mono ?_
    rw [T.out.2.1]
    rintro e w' ⟨rfl, q7, rfl⟩
    have H8 := Lib.hid (H7.out.drewN q7)
    clear H7
    generalize w7.drewN q7 = w8 at *
    go_wp2_with fail
    refine (bfinal_q b S fp7 _ (by exact H8.out.buf)).mono ?_
    rw [E.out.2.2.2.2.2.2]
    rintro e w' ⟨rfl, q8, rfl⟩
    have H9 := Lib.hid (H8.out.drewN q8)
    clear H8
    generalize w8.drewN q8 = w9 at *
    go_wp2_with fail
    refine (btake_any b S fp7 1000 _ (by exact H9.out.buf) (by omega) (by omega) E.out.2.2.2.2.1).mono ?_
    rw [E.out.2.2.2.2.2.1, T.out.2.2]
    rintro e w10 ⟨v10, fp10, rfl, hi, hw, hv⟩
    have H10 := Lib.hid (H9.out.went hi hw)
    have HV := Lib.hid hv
    clear hi hw hv H9
    go_wp2_with (refine wpList_pushV encB_len encB_one Try.underlying22 hi0 hz1 hz0 zeroB rfl (.tmp 94) (.tmp 95) rfl (by exact SlG.fresh0) (by exact HVA.out.below (H10.out.alloc _).below) rfl rfl (by rw [HA.out.1, hz2']; simp; omega) (by rw [HA.out.1]; simp; omega) ?_)
    intro W1 v1 og1 hs1 ho1 hu1
    have hb1 : Below w10.heap.size w10 W1 := Upd.onto ((Below.refl w10.heap.size w10).alloc (Nat.le_refl _) _) hu1 (by simp) (by intro j hj e; omega)
    have HL := Lib.hid H10.out.buf.lt
    have HBW := Lib.hid H10.out.below
    have HV1 := Lib.hid (HV.out.vw.below hb1)
    have HB1 := Lib.hid hb1
    have HS1 := Lib.hid hs1
    have HG1 := Lib.hid (show ∀ g, og1 = some g → w10.heap.size ≤ g from by
      intro g hg
      rcases ho1 with h | ⟨g', h, h2⟩
      · rw [h] at hg
        cases hg
        omega
      · rw [h] at hg
        cases hg
        omega)
    have HVD1 := Lib.hid (HVD.out.below (below_call HBW.out HBW.out.size hb1))
    clear hs1 ho1 hu1 hb1 HV H10
    go_wp2_with (refine wpList_pushV encB_len encB_one Try.underlying22 hi0 hz1 hz0 zeroB rfl (.tmp 104) (.tmp 110) rfl (by exact HS1.out) (by exact HVD1.out) rfl rfl (by rw [HA.out.1, HDL.out, hz2']; omega) (by rw [HA.out.1, HDL.out]; omega) ?_)
    intro W2 v2 og2 hs2 ho2 hu2
    have hb2 : Below w10.heap.size W1 W2 := Upd.onto (Below.refl w10.heap.size W1) hu2 HB1.out.size (by intro j hj e; have := HG1.out j e; omega)
    have HB2 := Lib.hid (below_call HBW.out HBW.out.size (HB1.out.trans hb2))
    have hx1 := (hs2.vw.rds).str (P := Try.prog) (src := 22) (dst := 9) Try.underlying22 Try.underlying5 Try.underlying9
    have hx2 := ((HV1.out.below hb2).rds).str (P := Try.prog) (src := 22) (dst := 9) Try.underlying22 Try.underlying5 Try.underlying9
    rw [HDE.out] at hx1
    generalize strB (A ++ List.drop (na - k) B) = str at *
    clear hs2 ho2 hu2 hb2 HS1 HVD1 HV1
    go_wp2_with fail
    refine (known_any _).mono ?_
    rintro e w12 ⟨rfl, hb⟩
    have H13 := Lib.hid (below_call HB2.out HB2.out.size hb)
    clear hb HB2 hx1 hx2
    go_wp2_with fail
    go_ret
    exact ⟨rfl, H13.out⟩
  · have hgg : hg = na := by have := HHG.out; omega
    obtain ⟨ee, hkk, hky⟩ : ∃ ee : Nat, (k : Int) + (nb : Int) = (ee : Int) ∧ ¬ na < ee := ⟨k + nb, by omega, by omega⟩
    have HDE := Lib.hid (show A ++ B.drop (na - k) = A from by rw [List.drop_of_length_le (by rw [HB.out.1]; omega), List.append_nil])
    obtain rfl : na = hg := hgg.symm
    by_cases hpos : 0 < na
    · go_enter Try.func6, Try.ntmps6
      go_wp2_with fail
      refine (bnew_any _).mono ?_
      rintro e w1 ⟨b, fp1, rfl, hi, hn, hb⟩
      have H1 := Lib.hid (show Mine w w1 b IB.zero fp1 from ⟨hi, hn, hb⟩)
      clear hi hn hb
      go_wp2_with fail
      refine (kcut_q oa lena capa 60 _ hca hca2 (by omega)).mono ?_
      rw [HNA.out]
      rintro e w' ⟨rfl, rfl⟩
      go_wp2_with fail
      refine (kcut_q ob lenb capb 60 _ hcb hcb2 (by omega)).mono ?_
      rw [HNB.out]
      rintro e w' ⟨rfl, rfl⟩
      go_wp2_with fail
      refine (within_any off 0 na _ (by omega) (by omega) (by omega) (by omega) (by omega)).mono ?_
      rw [HK.out]
      rintro e w2 ⟨rfl, hw⟩
      obtain rfl := hw
      go_wp2_with fail
      refine (badd_e b IB.zero _ fp1 0 _ A false _ (by exact H1.out.buf) (by exact H1.out.view HVA.out) HA.out.2 (by decide) R.out.1 E.out.1).mono ?_
      rintro e w2 ⟨rfl, fp2, hi, hw⟩
      have H2 := Lib.hid (H1.out.went hi hw)
      clear hi hw H1
      go_wp2_with fail
      refine (badd_e b _ _ fp2 k _ B false _ (by exact H2.out.buf) (by exact H2.out.view HVB.out) HB.out.2 (by omega) R.out.2.1 E.out.2.1).mono ?_
      rintro e w3 ⟨rfl, fp3, hi, hw⟩
      have H3 := Lib.hid (H2.out.went hi hw)
      clear hi hw H2
      generalize hS : two A B k = S at *
      have HS := Lib.hid hS
      clear hS
      go_wp2_with fail
      refine (bhigh_q b S fp3 _ (by exact H3.out.buf)).mono ?_
      rw [T.out.2.1]
      rintro e w' ⟨rfl, q, rfl⟩
      have H4 := Lib.hid (H3.out.drewN q)
      clear H3
      generalize w3.drewN q = w4 at *
      go_wp2_with fail
      refine (bRdy_any b S fp3 _ (by exact H4.out.buf)).mono ?_
      rw [T.out.1]
      rintro e w5 ⟨rfl, hb⟩
      have H5 := Lib.hid (H4.out.later hb)
      clear hb H4
      go_wp2_with fail
      refine (badd_e b S S fp3 (2049 + y) _ [1] true _ (by exact (H5.out.alloc _).buf) (by exact lit_vwa (alloc_at _ _) rfl H5.out.fresh rfl (by omega) (by omega)) (by unfold Bys; decide) (by omega) R.out.2.2.1 E.out.2.2.1).mono ?_
      rintro e w6 ⟨rfl, fp6, hi, hw⟩
      have H6 := Lib.hid ((H5.out.alloc _).went hi hw)
      clear hi hw H5
      go_wp2_with fail
      refine (badd_e b S S fp6 0 _ [] true _ (by exact H6.out.buf) (by exact nil_vwa fp6 w6) (by unfold Bys; simp) (by omega) (R.out.2.2.2 hpos) (E.out.2.2.2.1 hpos)).mono ?_
      rintro e w7 ⟨rfl, fp7, hi, hw⟩
      have H7 := Lib.hid (H6.out.went hi hw)
      clear hi hw H6
      go_wp2_with fail
      refine (bhigh_q b S fp7 _ (by exact H7.out.buf)).mono ?_
      rw [T.out.2.1]
      rintro e w' ⟨rfl, q7, rfl⟩
      have H8 := Lib.hid (H7.out.drewN q7)
      clear H7
      generalize w7.drewN q7 = w8 at *
      go_wp2_with fail
      refine (bfinal_q b S fp7 _ (by exact H8.out.buf)).mono ?_
      rw [E.out.2.2.2.2.2.2]
      rintro e w' ⟨rfl, q8, rfl⟩
      have H9 := Lib.hid (H8.out.drewN q8)
      clear H8
      generalize w8.drewN q8 = w9 at *
      go_wp2_with fail
      refine (btake_any b S fp7 1000 _ (by exact H9.out.buf) (by omega) (by omega) E.out.2.2.2.2.1).mono ?_
      rw [E.out.2.2.2.2.2.1, T.out.2.2]
      rintro e w10 ⟨v10, fp10, rfl, hi, hw, hv⟩
      have H10 := Lib.hid (H9.out.went hi hw)
      have HV := Lib.hid hv
      clear hi hw hv H9
      go_wp2_with (refine wpList_pushV encB_len encB_one Try.underlying22 hi0 hz1 hz0 zeroB rfl (.tmp 94) (.tmp 95) rfl (by exact SlG.fresh0) (by exact HVA.out.below (H10.out.alloc _).below) rfl rfl (by rw [HA.out.1, hz2']; simp; omega) (by rw [HA.out.1]; simp; omega) ?_)
      intro W1 v1 og1 hs1 ho1 hu1
      have hb1 : Below w10.heap.size w10 W1 := Upd.onto ((Below.refl w10.heap.size w10).alloc (Nat.le_refl _) _) hu1 (by simp) (by intro j hj e; omega)
      have HL := Lib.hid H10.out.buf.lt
      have HBW := Lib.hid H10.out.below
      have HV1 := Lib.hid (HV.out.vw.below hb1)
      have HB1 := Lib.hid hb1
      have HS1 := Lib.hid hs1
      have HG1 := Lib.hid (show ∀ g, og1 = some g → w10.heap.size ≤ g from by
        intro g hg
        rcases ho1 with h | ⟨g', h, h2⟩
        · rw [h] at hg
          cases hg
          omega
        · rw [h] at hg
          cases hg
          omega)
      have HB2 := Lib.hid (below_call HBW.out HBW.out.size hb1)
      have hx1 := (hs1.vw.rds).str (P := Try.prog) (src := 22) (dst := 9) Try.underlying22 Try.underlying5 Try.underlying9
      have hx2 := (HV1.out.rds).str (P := Try.prog) (src := 22) (dst := 9) Try.underlying22 Try.underlying5 Try.underlying9
      rw [HDE.out] at hx2
      generalize strB A = str at *
      clear hs1 ho1 hu1 hb1 HS1 HV1 HV H10
      go_wp2_with fail
      refine (known_any _).mono ?_
      rintro e w12 ⟨rfl, hb⟩
      have H13 := Lib.hid (below_call HB2.out HB2.out.size hb)
      clear hb HB2 hx1 hx2
      go_wp2_with fail
      go_ret
      exact ⟨rfl, H13.out⟩
    · have hpos' : decide (0 < na) = false := decide_eq_false hpos
      go_enter Try.func6, Try.ntmps6
      go_wp2_with fail
      refine (bnew_any _).mono ?_
      rintro e w1 ⟨b, fp1, rfl, hi, hn, hb⟩
      have H1 := Lib.hid (show Mine w w1 b IB.zero fp1 from ⟨hi, hn, hb⟩)
      clear hi hn hb
      go_wp2_with fail
      refine (kcut_q oa lena capa 60 _ hca hca2 (by omega)).mono ?_
      rw [HNA.out]
      rintro e w' ⟨rfl, rfl⟩
      go_wp2_with fail
      refine (kcut_q ob lenb capb 60 _ hcb hcb2 (by omega)).mono ?_
      rw [HNB.out]
      rintro e w' ⟨rfl, rfl⟩
      go_wp2_with fail
      refine (within_any off 0 na _ (by omega) (by omega) (by omega) (by omega) (by omega)).mono ?_
      rw [HK.out]
      rintro e w2 ⟨rfl, hw⟩
      obtain rfl := hw
      go_wp2_with fail
      refine (badd_e b IB.zero _ fp1 0 _ A false _ (by exact H1.out.buf) (by exact H1.out.view HVA.out) HA.out.2 (by decide) R.out.1 E.out.1).mono ?_
      rintro e w2 ⟨rfl, fp2, hi, hw⟩
      have H2 := Lib.hid (H1.out.went hi hw)
      clear hi hw H1
      go_wp2_with fail
      refine (badd_e b _ _ fp2 k _ B false _ (by exact H2.out.buf) (by exact H2.out.view HVB.out) HB.out.2 (by omega) R.out.2.1 E.out.2.1).mono ?_
      rintro e w3 ⟨rfl, fp3, hi, hw⟩
      have H3 := Lib.hid (H2.out.went hi hw)
      clear hi hw H2
      generalize hS : two A B k = S at *
      have HS := Lib.hid hS
      clear hS
      go_wp2_with fail
      refine (bhigh_q b S fp3 _ (by exact H3.out.buf)).mono ?_
      rw [T.out.2.1]
      rintro e w' ⟨rfl, q, rfl⟩
      have H4 := Lib.hid (H3.out.drewN q)
      clear H3
      generalize w3.drewN q = w4 at *
      go_wp2_with fail
      refine (bRdy_any b S fp3 _ (by exact H4.out.buf)).mono ?_
      rw [T.out.1]
      rintro e w5 ⟨rfl, hb⟩
      have H5 := Lib.hid (H4.out.later hb)
      clear hb H4
      go_wp2_with fail
      refine (badd_e b S S fp3 (2049 + y) _ [1] true _ (by exact (H5.out.alloc _).buf) (by exact lit_vwa (alloc_at _ _) rfl H5.out.fresh rfl (by omega) (by omega)) (by unfold Bys; decide) (by omega) R.out.2.2.1 E.out.2.2.1).mono ?_
      rintro e w6 ⟨rfl, fp6, hi, hw⟩
      have H6 := Lib.hid ((H5.out.alloc _).went hi hw)
      clear hi hw H5
      go_wp2_with fail
      refine (bhigh_q b S fp6 _ (by exact H6.out.buf)).mono ?_
      rw [T.out.2.1]
      rintro e w' ⟨rfl, q6, rfl⟩
      have H8 := Lib.hid (H6.out.drewN q6)
      clear H6
      generalize w6.drewN q6 = w8 at *
      go_wp2_with fail
      refine (bfinal_q b S fp6 _ (by exact H8.out.buf)).mono ?_
      rw [E.out.2.2.2.2.2.2]
      rintro e w' ⟨rfl, q8, rfl⟩
      have H9 := Lib.hid (H8.out.drewN q8)
      clear H8
      generalize w8.drewN q8 = w9 at *
      go_wp2_with fail
      refine (btake_any b S fp6 1000 _ (by exact H9.out.buf) (by omega) (by omega) E.out.2.2.2.2.1).mono ?_
      rw [E.out.2.2.2.2.2.1, T.out.2.2]
      rintro e w10 ⟨v10, fp10, rfl, hi, hw, hv⟩
      have H10 := Lib.hid (H9.out.went hi hw)
      have HV := Lib.hid hv
      clear hi hw hv H9
      go_wp2_with (refine wpList_pushV encB_len encB_one Try.underlying22 hi0 hz1 hz0 zeroB rfl (.tmp 94) (.tmp 95) rfl (by exact SlG.fresh0) (by exact HVA.out.below (H10.out.alloc _).below) rfl rfl (by rw [HA.out.1, hz2']; simp; omega) (by rw [HA.out.1]; simp; omega) ?_)
      intro W1 v1 og1 hs1 ho1 hu1
      have hb1 : Below w10.heap.size w10 W1 := Upd.onto ((Below.refl w10.heap.size w10).alloc (Nat.le_refl _) _) hu1 (by simp) (by intro j hj e; omega)
      have HL := Lib.hid H10.out.buf.lt
      have HBW := Lib.hid H10.out.below
      have HV1 := Lib.hid (HV.out.vw.below hb1)
      have HB1 := Lib.hid hb1
      have HS1 := Lib.hid hs1
      have HG1 := Lib.hid (show ∀ g, og1 = some g → w10.heap.size ≤ g from by
        intro g hg
        rcases ho1 with h | ⟨g', h, h2⟩
        · rw [h] at hg
          cases hg
          omega
        · rw [h] at hg
          cases hg
          omega)
      have HB2 := Lib.hid (below_call HBW.out HBW.out.size hb1)
      have hx1 := (hs1.vw.rds).str (P := Try.prog) (src := 22) (dst := 9) Try.underlying22 Try.underlying5 Try.underlying9
      have hx2 := (HV1.out.rds).str (P := Try.prog) (src := 22) (dst := 9) Try.underlying22 Try.underlying5 Try.underlying9
      rw [HDE.out] at hx2
      generalize strB A = str at *
      clear hs1 ho1 hu1 hb1 HS1 HV1 HV H10
      go_wp2_with fail
      refine (known_any _).mono ?_
      rintro e w12 ⟨rfl, hb⟩
      have H13 := Lib.hid (below_call HB2.out HB2.out.size hb)
      clear hb HB2 hx1 hx2
      go_wp2_with fail
      go_ret
      exact ⟨rfl, H13.out⟩
end Go.Proofs.Ytojklmbbepgciaa
