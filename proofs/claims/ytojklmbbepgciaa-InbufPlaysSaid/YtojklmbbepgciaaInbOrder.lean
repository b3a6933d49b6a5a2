/- DERIVED. Walk of narthexlaw14's InbufOrder. -/
import Derived.Test.YtojklmbbepgciaaInbFirst
import Derived.Deep.RegionHeld3
namespace Go.Proofs.Ytojklmbbepgciaa
open Go.RowKit

/-- Asks of chapter 14. -/
structure AkI where
  kd : Int
  off : Int
  size : Int
  most : Int
  fin : Bool
  raw : Bool
  at_ : Nat
  vd : Value
def encI (a : AkI) : List Value := [.int .i64 a.kd, .int .i64 a.off, .int .i64 a.size, .int .i64 a.most, .bool a.fin, .bool a.raw, .int .u64 a.at_, a.vd]
theorem encI_len (a : AkI) : (encI a).length = 8 := rfl
def I64 (n : Int) : Prop := -9223372036854775808 ≤ n ∧ n ≤ 9223372036854775807
structure AkIOk (w : World) (B : Nat) (a : AkI) : Prop where
  kd : I64 a.kd
  off : I64 a.off
  size : I64 a.size
  most : I64 a.most
  at_ : a.at_ < 18446744073709551616
  data : ∃ d, Vw encB w B a.vd d ∧ Bys d
theorem AkI.cells {w : World} {B : Nat} {oa : Option Addr} {n cap : Nat} {L : List AkI} (h : Vw encI w B (.slice oa n cap) L) {i : Nat} {a : AkI} (ha : L[i]? = some a) :
    ∃ b off, oa = some ⟨b, off, none⟩ ∧ b < B ∧ w.cell? ⟨b, off + i * 8, none⟩ = some (.int .i64 a.kd) ∧ w.cell? ⟨b, off + i * 8 + 1, none⟩ = some (.int .i64 a.off) ∧ w.cell? ⟨b, off + i * 8 + 2, none⟩ = some (.int .i64 a.size) ∧
      w.cell? ⟨b, off + i * 8 + 3, none⟩ = some (.int .i64 a.most) ∧ w.cell? ⟨b, off + i * 8 + 4, none⟩ = some (.bool a.fin) := by
  obtain ⟨b, off, h1, h2, h3⟩ := h.el encI_len ha
  refine ⟨b, off, h1, h2, ?_, h3 1 (by omega), h3 2 (by omega), h3 3 (by omega), h3 4 (by omega)⟩
  have := h3 0 (by omega)
  simpa [encI] using this

theorem Mine.upd {W w w' : World} {b : Nat} {s : IB} {fp F : Nat → Prop} (h : Mine W w b s fp) (hu : Upd F w w') (h1 : ∀ k, fp k → ¬ F k) (h2 : ∀ k, k < W.heap.size → ¬ F k) : Mine W w' b s fp :=
  ⟨h.buf.keeps hu h1, h.new, Upd.belowOf h.below hu h2⟩
/-- The buffer and what was taken. -/
def OrdSt (W : World) (w : World) (b : Nat) (P : List Nat) (v : Value) : Prop :=
  ∃ s fp og, Mine W w b s fp ∧ Piece P s ∧ SlG encB 5 w v og (P.take s.rd) ∧ ∀ g, og = some g → W.heap.size ≤ g ∧ ¬ fp g
theorem ord_add {W w w3 : World} {b o : Nat} {P D : List Nat} {f : Bool} {s : IB} {fp fp3 : Nat → Prop} {v : Value} {og : Option Nat} (h : Mine W w b s fp) (hs : SlG encB 5 w v og (P.take s.rd)) (hg : ∀ g, og = some g → W.heap.size ≤ g ∧ ¬ fp g)
    (hp : s.err o D.length f = 0 ∧ Piece P (s.put o D f)) (hi : IbAt w3 b (s.add o D f) fp3) (hw : Went fp fp3 w.drew w3) : OrdSt W w3 b P v := by
  have e : s.add o D f = s.put o D f := by unfold IB.add; rw [if_pos hp.1]
  rw [e] at hi
  have hw2 : Went fp fp3 w w3 := Went.first (Below.refl _ _).drew hw
  refine ⟨s.put o D f, fp3, og, h.went hi hw2, hp.2, hs.keeps hw2.upd (fun g q => (hg g q).2), fun g q => ⟨(hg g q).1, fun q2 => ?_⟩⟩
  rcases hw2.new g q2 with q3 | q3
  · exact (hg g q).2 q3
  · have := hs.lt g q
    omega
theorem OrdSt.drewN {W w : World} {b : Nat} {P : List Nat} {v : Value} (h : OrdSt W w b P v) (n : Nat) : OrdSt W (w.drewN n) b P v := by
  obtain ⟨s, fp, og, h1, h2, h3, h4⟩ := h
  exact ⟨s, fp, og, h1.drewN n, h2, h3.drewN n, h4⟩
theorem emp_vwa (fp : Nat → Prop) (w : World) (oa : Option Addr) (c : Nat) (h : c ≤ 9223372036854775807) : VwA encB fp w (.slice oa 0 c) [] := ⟨oa, c, rfl, by simp, h, .inl rfl⟩
theorem Rds.drewN {w : World} {v : Value} {xs : List Nat} (h : Rds w v xs) (n : Nat) : Rds (w.drewN n) v xs := h

set_option maxRecDepth 100000 in
set_option maxHeartbeats 8000000 in
theorem order_walk (va vl : Value) (la : List Nat) (L : List AkI) (w : World) (ha : Vw encB w w.heap.size va la) (hba : Bys la) (hl : Vw encI w w.heap.size vl L) (hL : ∀ a ∈ L, AkIOk w w.heap.size a) :
    Calls Try.prog 3 #[va, vl] w fun e w' => e = .returned (.bool true) ∧ Below w.heap.size w w' := by
  obtain ⟨i0, hi0, hz0, hz1, hz2'⟩ := info_parts infoB
  obtain ⟨oa, lena, capa, rfl, hla, hca, hca2, hva⟩ := kcut_v ha 200 (by omega)
  have hA1 : (la.take 200).length = min lena 200 := by rw [List.length_take]; omega
  have hA2 := take_bys hba 200
  obtain ⟨ol, capl, rfl, hcl1, hcl2⟩ := hl.shape
  clear ha hba
  generalize la.take 200 = A at *
  obtain ⟨na, hna, hna1, hna2⟩ : ∃ na, min lena 200 = na ∧ na ≤ 200 ∧ na ≤ capa := ⟨_, rfl, by omega, by omega⟩
  rw [hna] at hA1 hva
  have HVA := Lib.hid hva
  have HA := Lib.hid (And.intro hA1 hA2)
  have HNA := Lib.hid hna
  have HVL := Lib.hid hl
  have HLO := Lib.hid hL
  clear hva hA1 hA2 hna hl hL hla
  generalize hn : L.length = len at *
  have HN := Lib.hid hn
  clear hn
  go_enter Try.func3, Try.ntmps3
  go_wp2_with fail
  refine (bnew_any _).mono ?_
  rintro e w1 ⟨b, fp1, rfl, hi, hn, hb⟩
  have H0 := Lib.hid (show OrdSt w w1 b A (.slice none 0 0) from ⟨IB.zero, fp1, none, ⟨hi, hn, hb⟩, Piece.zero A, SlG.nil _, by simp⟩)
  clear hi hn hb
  go_wp2_with fail
  refine (kcut_q oa lena capa 200 _ hca hca2 (by omega)).mono ?_
  rw [HNA.out]
  rintro e w' ⟨rfl, hw⟩
  obtain rfl := hw
  go_upto_block 0 with fail
  go_cut [6] (fun v wx => OrdSt w wx b A v)
  case first =>
    go_wp2_with fail
    go_loopw [6, 7] (fun v i wr => ∃ k : Nat, i = .int .i64 k ∧ k ≤ 40 ∧ OrdSt w wr b A v) (fun _ i _ => 40 - (intOf i).toNat)
    case atStart => exact ⟨0, rfl, by omega, H0.out⟩
    case round =>
      obtain ⟨k, rfl, hk, hst⟩ := hrel
      have HST := Lib.hid hst
      clear hst H0
      by_cases hlt : k < len
      · by_cases hlt2 : k < 40
        · obtain ⟨a, hak⟩ : ∃ a, L[k]? = some a := ⟨_, List.getElem?_eq_getElem (by rw [HN.out]; exact hlt)⟩
          obtain ⟨c, ofc, rfl, hc, q0, q1, q2, q3, q4⟩ := AkI.cells HVL.out hak
          have hok := HLO.out a (List.mem_of_getElem? hak)
          obtain ⟨hk1, hk2⟩ := hok.kd
          obtain ⟨ho1, ho2⟩ := hok.off
          obtain ⟨hs1, hs2⟩ := hok.size
          obtain ⟨hm1, hm2⟩ := hok.most
          clear hok hak
          obtain ⟨kd, off, size, most, fin, raw, at_, vd⟩ := a
          simp only at q0 q1 q2 q3 q4 hk1 hk2 ho1 ho2 hs1 hs2 hm1 hm2
          have Q := Lib.hid (And.intro q0 (And.intro q1 (And.intro q2 (And.intro q3 q4))))
          clear q0 q1 q2 q3 q4
          obtain ⟨s, fp, og, hm, hp, hs, hg⟩ := HST.out
          have HM := Lib.hid hm
          have HP := Lib.hid hp
          have HS := Lib.hid hs
          have HG := Lib.hid hg
          have d0 := cell_keep hm.below hc Q.out.1
          clear hm hp hs hg HST
          go_upto_if 34 with fail
          go_cut [6] (fun v wy => OrdSt w wy b A v)
          case first =>
            by_cases hkd : kd = 1
            · subst hkd
              have d3 := cell_keep HM.out.below hc Q.out.2.2.2.1
              go_wp2_with fail
              refine (btake_any b s fp most _ (by exact HM.out.buf) hm1 hm2 rfl).mono ?_
              obtain ⟨n, hn⟩ : ∃ n, s.num most = n := ⟨_, rfl⟩
              have hnr := s.num_le most
              rw [hn] at hnr ⊢
              obtain ⟨hp1, hp2, hp3⟩ := HP.out.take hnr
              obtain ⟨r, hr⟩ : ∃ r, s.rd + n = r := ⟨_, rfl⟩
              have hol := out_len hnr
              have hlast : (s.take n).last = true → r = na := by
                intro h
                unfold IB.last at h
                simp at h
                have := hp1.fin h.1
                have := HA.out.1
                have h2 : (s.take n).rd = r := hr
                omega
              rintro e w3 ⟨v3, fp3, rfl, hi, hw, hv⟩
              have HM3 := Lib.hid (HM.out.went hi hw)
              have HS3 := Lib.hid (HS.out.keeps hw.upd (fun g hg => (HG.out g hg).2))
              have HG3 := Lib.hid (show ∀ g, og = some g → w.heap.size ≤ g ∧ ¬ fp3 g from fun g hg => ⟨(HG.out g hg).1, fun q => by
                rcases hw.new g q with q | q
                · exact (HG.out g hg).2 q
                · have := HS.out.lt g hg
                  omega⟩)
              have HV3 := Lib.hid hv.vw
              have HP1 := Lib.hid hp1
              have HT := Lib.hid (show A.take s.rd ++ s.out n = A.take r from by rw [hp2, ← hr, List.take_add])
              have HOL := Lib.hid hol
              have hrd := HP.out.rd
              rw [HA.out.1] at hrd
              have HTL := Lib.hid (show (A.take s.rd).length = s.rd ∧ (A.take r).length = r from by
                rw [List.length_take, List.length_take, HA.out.1]
                have := HA.out.1
                omega)
              have hr2 : r ≤ na := by have := HA.out.1; omega
              have hr3 : s.rd + n ≤ 200 := by omega
              have HR := Lib.hid hr
              generalize (s.take n).last = lst at *
              have HLS := Lib.hid hlast
              clear hi hw hv hp1 hp2 hp3 hol hlast hr hn HM HS HG d0 d3
              go_wp2_with (refine wpList_pushV encB_len encB_one Try.underlying22 hi0 hz1 hz0 zeroB rfl (.tmp 45) (.tmp 46) rfl (by exact HS3.out) (by exact HV3.out) rfl rfl (by rw [HTL.out.1, HOL.out, hz2']; omega) (by rw [HTL.out.1, HOL.out]; omega) ?_)
              intro W4 v4 og4 hs4 ho4 hu4
              rw [HT.out] at hs4
              have H4 := Lib.hid (show OrdSt w W4 b A v4 from ⟨s.take n, fp3, og4, HM3.out.upd hu4 (fun j hj e => (HG3.out j e).2 hj) (fun j hj e => by have := (HG3.out j e).1; omega), HP1.out, by
                have h2 : (s.take n).rd = r := HR.out
                rw [h2]
                exact hs4, fun g hg => by
                rcases ho4 with rfl | ⟨g', rfl, h5⟩
                · exact HG3.out g hg
                · cases hg
                  have h6 := HM3.out.below.size
                  exact ⟨by omega, fun q => by have := HM3.out.buf.lt.2 _ q; omega⟩⟩)
              obtain ⟨ob4, cap4, rfl, hc4, hc4'⟩ := hs4.shape
              rw [HTL.out.2] at hc4 H4 ⊢
              clear hs4 ho4 hu4 HM3 HS3 HG3 HV3
              cases lst
              · go_wp2_with fail
                go_meet
                case rel => exact H4.out
              · obtain rfl : r = na := HLS.out rfl
                go_wp2_with fail
                go_meet
                case rel => exact H4.out
            · have hw1 := withinS_bd off 0 na (by omega)
              obtain ⟨o, ho, hona⟩ : ∃ o : Nat, withinS off 0 na = (o : Int) ∧ o ≤ na := ⟨(withinS off 0 na).toNat, by omega, by omega⟩
              obtain ⟨u, hu, huo⟩ : ∃ u : Nat, (na : Int) - (o : Int) = (u : Int) ∧ o + u = na := ⟨na - o, by omega, by omega⟩
              have hw2 := withinS_bd size 0 u (by omega)
              obtain ⟨z, hz, hzu⟩ : ∃ z : Nat, withinS size 0 u = (z : Int) ∧ z ≤ u := ⟨(withinS size 0 u).toNat, by omega, by omega⟩
              obtain ⟨ee, hee, hee2⟩ : ∃ ee : Nat, (o : Int) + (z : Int) = (ee : Int) ∧ o + z = ee := ⟨o + z, by omega, rfl⟩
              have hee3 : ee ≤ na := by omega
              have hoe : o ≤ ee := by omega
              have hec : ee ≤ capa := by omega
              have hoei : (o : Int) ≤ (ee : Int) := by omega
              have heci : (ee : Int) ≤ (capa : Int) := by omega
              have hki : (k : Int) < (len : Int) := by omega
              have HO := Lib.hid ho
              have HZ := Lib.hid hz
              have HEE := Lib.hid hee2
              clear hw1 hw2 ho hz hee2
              have d1 := cell_keep HM.out.below hc Q.out.2.1
              have d2 := cell_keep HM.out.below hc Q.out.2.2.1
              have d4 := cell_keep HM.out.below hc Q.out.2.2.2.2
              go_wp2_with fail
              refine (within_any off 0 na _ (by omega) (by omega) (by omega) (by omega) (by omega)).mono ?_
              rw [HO.out]
              rintro e w2 ⟨rfl, hw⟩
              obtain rfl := hw
              go_wp2_with fail
              refine (within_any size 0 u _ (by omega) (by omega) (by omega) (by omega) (by omega)).mono ?_
              rw [HZ.out]
              rintro e w2 ⟨rfl, hw⟩
              obtain rfl := hw
              obtain ⟨f, hf⟩ : ∃ f, (fin && ((ee : Int) == (na : Int))) = f := ⟨_, rfl⟩
              have HF := Lib.hid hf
              clear hf
              by_cases hoc : o < capa ∧ 0 < na
              · obtain ⟨hoc, hna0⟩ := hoc
                obtain ⟨ba, ofa, rfl⟩ : ∃ ba ofa, oa = some ⟨ba, ofa, none⟩ := by
                  obtain ⟨x, hx⟩ : ∃ x, A[0]? = some x := ⟨_, List.getElem?_eq_getElem (by rw [HA.out.1]; omega)⟩
                  obtain ⟨bb, ofb, h, _⟩ := HVA.out.byte hx
                  exact ⟨bb, ofb, h⟩
                have hoc' : ¬ capa = o := by omega
                obtain ⟨D, hD, hDB⟩ : ∃ D, (A.drop o).take (ee - o) = D ∧ Bys D := ⟨_, rfl, fun x hx => HA.out.2 x (List.mem_of_mem_drop (List.mem_of_mem_take hx))⟩
                have hvp := HVA.out.part encB_len o (ee - o) (capa - o) (by rw [HA.out.1]; omega) (by omega) (by omega)
                rw [hD, Nat.mul_one] at hvp
                have HVP := Lib.hid hvp
                have HPA := Lib.hid (show ∀ f : Bool, (f = true → ee = na) → s.err o D.length f = 0 ∧ Piece A (s.put o D f) from fun f hf => by
                  obtain ⟨q1, q2, q3⟩ := HP.out.add (off := o) (n := ee - o) (f := f) (by rw [HA.out.1]; omega) (by rw [HA.out.1]; omega) (fun h => by rw [HA.out.1]; have := hf h; omega)
                  rw [hD] at q2 q3
                  rw [q3]
                  exact ⟨q1, q2⟩)
                have HD := Lib.hid (And.intro hD hDB)
                clear hvp hD hDB
                go_wp2_with fail
                cases fin
                · go_still_tail 18, (by kernel_rfl)
                  change wpList _ _ _ _ _ (World.drew _)
                  go_wp2_with fail
                  refine (badd_e b s _ fp o _ D false _ (by exact (HM.out.drewN 1).buf) (by exact (HM.out.drewN 1).view HVP.out) HD.out.2 (by omega) (HPA.out false (fun h => by cases h)).1 rfl).mono ?_
                  rintro e w3 ⟨rfl, fp3, hi, hw⟩
                  have H3 := Lib.hid (ord_add HM.out HS.out HG.out (HPA.out false (fun h => by cases h)) hi hw)
                  clear hi hw HM HP HS HG HPA d0 d1 d2 d4
                  go_wp2_with fail
                  go_meet
                  case rel => exact H3.out
                · by_cases hen : ee = na
                  · obtain rfl : ee = na := hen
                    go_still_tail 18, (by kernel_rfl)
                    change wpList _ _ _ _ _ (World.drew _)
                    go_wp2_with fail
                    refine (badd_e b s _ fp o _ D true _ (by exact (HM.out.drewN 1).buf) (by exact (HM.out.drewN 1).view HVP.out) HD.out.2 (by omega) (HPA.out true (fun _ => by first | rfl | trivial)).1 rfl).mono ?_
                    rintro e w3 ⟨rfl, fp3, hi, hw⟩
                    have H3 := Lib.hid (ord_add HM.out HS.out HG.out (HPA.out true (fun _ => by first | rfl | trivial)) hi hw)
                    clear hi hw HM HP HS HG HPA d0 d1 d2 d4
                    go_wp2_with fail
                    go_meet
                    case rel => exact H3.out
                  · have hq : ((ee : Int) == (na : Int)) = false := by rw [eqN, decide_eq_false_iff_not]; exact hen
                    go_still_tail 18, (by kernel_rfl)
                    change wpList _ _ _ _ _ (World.drew _)
                    go_wp2_with fail
                    refine (badd_e b s _ fp o _ D false _ (by exact (HM.out.drewN 1).buf) (by exact (HM.out.drewN 1).view HVP.out) HD.out.2 (by omega) (HPA.out false (fun h => by cases h)).1 rfl).mono ?_
                    rintro e w3 ⟨rfl, fp3, hi, hw⟩
                    have H3 := Lib.hid (ord_add HM.out HS.out HG.out (HPA.out false (fun h => by cases h)) hi hw)
                    clear hi hw HM HP HS HG HPA d0 d1 d2 d4
                    go_wp2_with fail
                    go_meet
                    case rel => exact H3.out
              · have hze : ee = na ∧ o = na ∧ (capa = na ∨ (na < capa ∧ na = 0)) := by omega
                obtain ⟨rfl, rfl, hcap⟩ := hze
                have HPA := Lib.hid (show ∀ f : Bool, (f = true → o = o) → s.err o ([] : List Nat).length f = 0 ∧ Piece A (s.put o [] f) from fun f hf => by
                  obtain ⟨q1, q2, q3⟩ := HP.out.add (off := o) (n := 0) (f := f) (by rw [HA.out.1]; omega) (by rw [HA.out.1]; omega) (fun h => by rw [HA.out.1]; omega)
                  rw [List.take_zero] at q2
                  exact ⟨q1, q2⟩)
                rcases hcap with hcap | ⟨hcap, h0⟩
                · obtain rfl : o = capa := hcap.symm
                  go_wp2_with fail
                  cases fin
                  · go_still_tail 18, (by kernel_rfl)
                    change wpList _ _ _ _ _ (World.drew _)
                    go_wp2_with fail
                    refine (badd_e b s _ fp o _ [] false _ (by exact (HM.out.drewN 1).buf) (by exact emp_vwa _ _ _ _ (by omega)) (by unfold Bys; simp) (by omega) (HPA.out false (fun _ => by first | rfl | trivial)).1 rfl).mono ?_
                    rintro e w3 ⟨rfl, fp3, hi, hw⟩
                    have H3 := Lib.hid (ord_add HM.out HS.out HG.out (HPA.out false (fun _ => by first | rfl | trivial)) hi hw)
                    clear hi hw HM HP HS HG HPA d0 d1 d2 d4
                    go_wp2_with fail
                    go_meet
                    case rel => exact H3.out
                  · go_still_tail 18, (by kernel_rfl)
                    change wpList _ _ _ _ _ (World.drew _)
                    go_wp2_with fail
                    refine (badd_e b s _ fp o _ [] true _ (by exact (HM.out.drewN 1).buf) (by exact emp_vwa _ _ _ _ (by omega)) (by unfold Bys; simp) (by omega) (HPA.out true (fun _ => by first | rfl | trivial)).1 rfl).mono ?_
                    rintro e w3 ⟨rfl, fp3, hi, hw⟩
                    have H3 := Lib.hid (ord_add HM.out HS.out HG.out (HPA.out true (fun _ => by first | rfl | trivial)) hi hw)
                    clear hi hw HM HP HS HG HPA d0 d1 d2 d4
                    go_wp2_with fail
                    go_meet
                    case rel => exact H3.out
                · obtain rfl : o = 0 := h0
                  obtain rfl : z = 0 := by have := HEE.out; omega
                  cases oa with
                  | none =>
                    go_wp2_with fail
                    cases fin
                    · go_still_tail 18, (by kernel_rfl)
                      change wpList _ _ _ _ _ (World.drew _)
                      go_wp2_with fail
                      refine (badd_e b s _ fp 0 _ [] false _ (by exact (HM.out.drewN 1).buf) (by exact emp_vwa _ _ _ _ (by omega)) (by unfold Bys; simp) (by omega) (HPA.out false (fun _ => by first | rfl | trivial)).1 rfl).mono ?_
                      rintro e w3 ⟨rfl, fp3, hi, hw⟩
                      have H3 := Lib.hid (ord_add HM.out HS.out HG.out (HPA.out false (fun _ => by first | rfl | trivial)) hi hw)
                      clear hi hw HM HP HS HG HPA d0 d1 d2 d4
                      go_wp2_with fail
                      go_meet
                      case rel => exact H3.out
                    · go_still_tail 18, (by kernel_rfl)
                      change wpList _ _ _ _ _ (World.drew _)
                      go_wp2_with fail
                      refine (badd_e b s _ fp 0 _ [] true _ (by exact (HM.out.drewN 1).buf) (by exact emp_vwa _ _ _ _ (by omega)) (by unfold Bys; simp) (by omega) (HPA.out true (fun _ => by first | rfl | trivial)).1 rfl).mono ?_
                      rintro e w3 ⟨rfl, fp3, hi, hw⟩
                      have H3 := Lib.hid (ord_add HM.out HS.out HG.out (HPA.out true (fun _ => by first | rfl | trivial)) hi hw)
                      clear hi hw HM HP HS HG HPA d0 d1 d2 d4
                      go_wp2_with fail
                      go_meet
                      case rel => exact H3.out
                  | some a =>
                    go_wp2_with fail
                    cases fin
                    · go_still_tail 18, (by kernel_rfl)
                      change wpList _ _ _ _ _ (World.drew _)
                      go_wp2_with fail
                      refine (badd_e b s _ fp 0 _ [] false _ (by exact (HM.out.drewN 1).buf) (by exact emp_vwa _ _ _ _ (by omega)) (by unfold Bys; simp) (by omega) (HPA.out false (fun _ => by first | rfl | trivial)).1 rfl).mono ?_
                      rintro e w3 ⟨rfl, fp3, hi, hw⟩
                      have H3 := Lib.hid (ord_add HM.out HS.out HG.out (HPA.out false (fun _ => by first | rfl | trivial)) hi hw)
                      clear hi hw HM HP HS HG HPA d0 d1 d2 d4
                      go_wp2_with fail
                      go_meet
                      case rel => exact H3.out
                    · go_still_tail 18, (by kernel_rfl)
                      change wpList _ _ _ _ _ (World.drew _)
                      go_wp2_with fail
                      refine (badd_e b s _ fp 0 _ [] true _ (by exact (HM.out.drewN 1).buf) (by exact emp_vwa _ _ _ _ (by omega)) (by unfold Bys; simp) (by omega) (HPA.out true (fun _ => by first | rfl | trivial)).1 rfl).mono ?_
                      rintro e w3 ⟨rfl, fp3, hi, hw⟩
                      have H3 := Lib.hid (ord_add HM.out HS.out HG.out (HPA.out true (fun _ => by first | rfl | trivial)) hi hw)
                      clear hi hw HM HP HS HG HPA d0 d1 d2 d4
                      go_wp2_with fail
                      go_meet
                      case rel => exact H3.out
          case rest =>
            clear HM HP HS HG d0 Q
            obtain ⟨s, fp, og, hm, hp, hs, hg⟩ := hcut
            have hrd := hp.rd
            rw [HA.out.1] at hrd
            have hlr : (A.take s.rd).length = s.rd := by rw [List.length_take, HA.out.1]; omega
            have HST := Lib.hid (show OrdSt w wc b A u6 from ⟨s, fp, og, hm, hp, hs, hg⟩)
            obtain ⟨r, hr⟩ : ∃ r, s.rd = r := ⟨_, rfl⟩
            rw [hr] at hs hrd hlr
            obtain ⟨ov, cv, rfl, hcv1, hcv2⟩ := hs.shape
            have hf1 : Vw encB wc w.heap.size (.slice oa r capa) (A.take r) := (HVA.out.front encB_len r hrd).below hm.below
            have hx1 := fun n => (hs.vw.rds.drewN n).str (P := Try.prog) (src := 22) (dst := 9) Try.underlying22 Try.underlying5 Try.underlying9
            have hx2 := fun n => (hf1.rds.drewN n).str (P := Try.prog) (src := 22) (dst := 9) Try.underlying22 Try.underlying5 Try.underlying9
            rw [hlr] at hx1 hcv1 HST ⊢
            have hrc : r ≤ capa := by omega
            have hrn : ¬ na < r := by omega
            generalize strB (A.take r) = str at *
            clear hm hp hs hg hr hlr hf1
            go_wp2_with fail
            go_quiet (fail)
            go_wp2_with fail
            go_roundw
            case rel => exact ⟨k + 1, by go_num, by omega, HST.out.drewN _⟩
            case measure => simp [intOf]; omega
        · go_wp2_with fail
          go_meet
          case rel => exact HST.out
      · go_wp2_with fail
        go_meet
        case rel => exact HST.out
  case rest =>
    clear H0
    obtain ⟨s, fp, og, hm, hp, hs, hg⟩ := hcut
    obtain ⟨p1, p2, p3⟩ := hp.add (off := 0) (n := na) (f := true) (by rw [HA.out.1]; omega) (by rw [HA.out.1]; omega) (fun _ => by rw [HA.out.1]; omega)
    have hA : (A.drop 0).take na = A := by rw [List.drop_zero, ← HA.out.1, List.take_length]
    rw [hA] at p2 p3
    have hall := hp.all hm.buf.ok (f := true)
    have hrd := hp.rd
    rw [HA.out.1] at hall hrd
    obtain ⟨S, hS⟩ : ∃ S, s.put 0 A true = S := ⟨_, rfl⟩
    have q1 : s.add 0 A true = S := by unfold IB.add; rw [p3, if_pos p1]; exact hS
    have q2 : S.rd = s.rd ∧ S.kn = true ∧ S.fin = na := by rw [← hS]; refine ⟨rfl, rfl, ?_⟩; simp [IB.put, HA.out.1]
    rw [hS] at p2 hall
    have q3 : S.whole = true := by
      unfold IB.whole
      rw [q2.2.1, q2.2.2, q2.1, hall]
      simp
      omega
    obtain ⟨n, hn⟩ : ∃ n, na - s.rd = n := ⟨_, rfl⟩
    have q4 : S.num 1000 = n := by unfold IB.num; rw [hall]; omega
    have q5 : (S.take n).last = true := by
      have e1 : (S.take n).rd = (S.take n).fin := by
        show S.rd + n = S.fin
        rw [q2.2.2, q2.1]
        omega
      unfold IB.last
      rw [show (S.take n).kn = true from q2.2.1]
      simp [e1]
    have q6 : A.take s.rd ++ S.out n = A := by
      have e1 : (A.drop s.rd).take n = A.drop s.rd := List.take_of_length_le (by rw [List.length_drop, HA.out.1]; omega)
      rw [(p2.take (by rw [hall]; omega)).2.1, q2.1, e1, List.take_append_drop]
    have q7 : (A.take s.rd).length = s.rd ∧ (S.out n).length = n := ⟨by rw [List.length_take, HA.out.1]; omega, out_len (by rw [hall]; omega)⟩
    have HM := Lib.hid hm
    have HS := Lib.hid hs
    have HG := Lib.hid hg
    have R := Lib.hid (show s.err 0 A.length true = 0 by rw [HA.out.1]; exact p1)
    have E := Lib.hid (And.intro q1 (And.intro q3 (And.intro q4 (And.intro q5 (And.intro q6 q7)))))
    have hnn : s.rd + n ≤ 200 := by omega
    clear hm hp hs hg p1 p2 p3 hA hall hS q1 q2 q3 q4 q5 q6 q7 hn
    go_wp2_with fail
    refine (badd_e b s S fp 0 _ A true _ (by exact HM.out.buf) (by exact HM.out.view HVA.out) HA.out.2 (by decide) R.out E.out.1).mono ?_
    rintro e w3 ⟨rfl, fp3, hi, hw⟩
    have H3 := Lib.hid (HM.out.went hi hw)
    have HS3 := Lib.hid (HS.out.keeps hw.upd (fun g hg => (HG.out g hg).2))
    have HG3 := Lib.hid (show ∀ g, og = some g → w.heap.size ≤ g ∧ ¬ fp3 g from fun g hg => ⟨(HG.out g hg).1, fun q => by
      rcases hw.new g q with q | q
      · exact (HG.out g hg).2 q
      · have := HS.out.lt g hg
        omega⟩)
    clear hi hw HM HS HG
    go_wp2_with fail
    refine (bwhole_any b S fp3 _ (by exact H3.out.buf)).mono ?_
    rw [E.out.2.1]
    rintro e w4 ⟨rfl, hb⟩
    have H4 := Lib.hid (H3.out.later hb)
    have HS4 := Lib.hid (HS3.out.below hb)
    clear hb H3 HS3
    go_wp2_with fail
    refine (btake_any b S fp3 1000 _ (by exact H4.out.buf) (by omega) (by omega) E.out.2.2.1).mono ?_
    rw [E.out.2.2.2.1]
    rintro e w5 ⟨v5, fp5, rfl, hi, hw, hv⟩
    have H5 := Lib.hid (H4.out.went hi hw)
    have HS5 := Lib.hid (HS4.out.keeps hw.upd (fun g hg => (HG3.out g hg).2))
    have HV5 := Lib.hid hv.vw
    obtain ⟨str, hstr⟩ : ∃ str, strB A = str := ⟨_, rfl⟩
    have HX := Lib.hid (show ∀ W, Below w.heap.size w W → (convert 22 9 (.slice oa na capa)).run Try.prog W = .ok (.string str) W from fun W hW => by
      rw [← hstr]
      exact ((HVA.out.below hW).rds).str Try.underlying22 Try.underlying5 Try.underlying9)
    have hxw := HX.out _ H5.out.below.drew
    have HST := Lib.hid hstr
    clear hi hw hv H4 HS4 hstr
    go_wp2_with fail
    refine wp_region_held_drew (S := fun w' => (convert 22 9 (.slice oa na capa)).run Try.prog w' = .ok (.string str) w') (by kernel_rfl) (by exact hxw) (fun hHeld => ?_)
    refine wpAnyH_take (i := 0) (oi := ⟨some 125, _, _, _, _, _⟩) (v := ?_) rfl (by kernel_rfl) (by kernel_rfl) (by kernel_rfl) (fun _ _ _ h => h) (Or.inl ⟨by rfl, ?_⟩) (by assumption) ?_
    rotate_left
    · intro w hSw
      (try dsimp only at hSw)
      go_simp
      try with_reducible rfl
    try simp only [Act.put, List.setIfInBounds_toArray, List.set_cons_zero, List.set_cons_succ]
    refine wpAnyH_take (i := 1) (oi := ⟨some 126, _, _, _, _, _⟩) (v := ?_) rfl (by kernel_rfl) (by kernel_rfl) (by kernel_rfl) (fun _ _ _ h => h) (Or.inl ⟨by rfl, ?_⟩) (by assumption) ?_
    rotate_left
    · intro w hSw
      (try dsimp only at hSw)
      go_simp
      try with_reducible rfl
    try simp only [Act.put, List.setIfInBounds_toArray, List.set_cons_zero, List.set_cons_succ]
    refine wpAnyH_take (i := 4) (oi := ⟨some 129, _, _, _, _, _⟩) (v := ?_) rfl (by kernel_rfl) (by kernel_rfl) (by kernel_rfl) (fun _ _ _ h => h) (Or.inl ⟨by rfl, ?_⟩) (by assumption) ?_
    rotate_left
    · intro w hSw
      (try dsimp only at hSw)
      go_simp
      try with_reducible rfl
    try simp only [Act.put, List.setIfInBounds_toArray, List.set_cons_zero, List.set_cons_succ]
    refine wpAnyH_take (i := 5) (oi := ⟨some 130, _, _, _, _, _⟩) (v := ?_) rfl (by kernel_rfl) (by kernel_rfl) (by kernel_rfl) (fun _ _ _ h => h) (Or.inl ⟨by rfl, ?_⟩) (by assumption) ?_
    rotate_left
    · intro w hSw
      (try dsimp only at hSw)
      go_simp
      try with_reducible rfl
    try simp only [Act.put, List.setIfInBounds_toArray, List.set_cons_zero, List.set_cons_succ]
    refine wpAnyH_ready (rs := [2]) (by kernel_rfl) (by simp) ?_
    refine AllReadyH.cons (o := ⟨some 127, _, _, _, _, _⟩) rfl (fun K hK => ?_) AllReadyH.nil
    refine step_pushV encB_len encB_one Try.underlying22 hi0 hz1 hz0 zeroB rfl (.tmp 125) (.tmp 126) rfl (by exact HS5.out.drew) (by exact HV5.out.below (Below.refl _ _).drew) rfl rfl (by rw [E.out.2.2.2.2.2.1, E.out.2.2.2.2.2.2, hz2']; omega) (by rw [E.out.2.2.2.2.2.1, E.out.2.2.2.2.2.2]; omega) ?_
    intro W6 v6 og6 hs6 ho6 hu6
    rw [E.out.2.2.2.2.1] at hs6
    have hb6 : Below w.heap.size w W6 := Upd.belowOf H5.out.below.drew hu6 (fun j hj e => by have := (HG3.out j e).1; omega)
    have hx6 := HX.out _ hb6
    have hy6 := hs6.vw.rds.str (P := Try.prog) (src := 22) (dst := 9) Try.underlying22 Try.underlying5 Try.underlying9
    rw [HST.out] at hy6
    refine hK.out _ _ (by exact hx6) (fun hHeld => ?_)
    clear hK K
    try simp only [Act.put, List.setIfInBounds_toArray, List.set_cons_zero, List.set_cons_succ]
    refine wpAnyH_ready (rs := [3]) (by kernel_rfl) (by simp) ?_
    refine AllReadyH.cons (o := ⟨some 128, _, _, _, _, _⟩) rfl (fun K hK => ?_) AllReadyH.nil
    go_simp
    refine hK.out _ _ (by exact hx6) (fun hHeld => ?_)
    clear hK K
    try simp only [Act.put, List.setIfInBounds_toArray, List.set_cons_zero, List.set_cons_succ]
    refine wpAnyH_take (i := 6) (oi := ⟨some 131, _, _, _, _, _⟩) (v := ?_) rfl (by kernel_rfl) (by kernel_rfl) (by kernel_rfl) (fun _ _ _ h => h) (Or.inl ⟨by rfl, ?_⟩) (by assumption) ?_
    rotate_left
    · intro w hSw
      (try dsimp only at hSw)
      go_simp
      try with_reducible rfl
    try simp only [Act.put, List.setIfInBounds_toArray, List.set_cons_zero, List.set_cons_succ]
    refine wpAnyH_take (i := 7) (oi := ⟨some 132, _, _, _, _, _⟩) (v := ?_) rfl (by kernel_rfl) (by kernel_rfl) (by kernel_rfl) (fun _ _ _ h => h) (Or.inl ⟨by rfl, ?_⟩) (by assumption) ?_
    rotate_left
    · intro w hSw
      (try dsimp only at hSw)
      go_simp
      try with_reducible rfl
    try simp only [Act.put, List.setIfInBounds_toArray, List.set_cons_zero, List.set_cons_succ]
    refine wpAnyH_take (i := 8) (oi := ⟨some 133, _, _, _, _, _⟩) (v := ?_) rfl (by kernel_rfl) (by kernel_rfl) (by kernel_rfl) (fun _ _ _ h => h) (Or.inl ⟨by rfl, ?_⟩) (by assumption) ?_
    rotate_left
    · intro w hSw
      (try dsimp only at hSw)
      go_simp
      try with_reducible rfl
    try simp only [Act.put, List.setIfInBounds_toArray, List.set_cons_zero, List.set_cons_succ]
    refine wpAnyH_take (i := 9) (oi := ⟨some 134, _, _, _, _, _⟩) (v := ?_) rfl (by kernel_rfl) (by kernel_rfl) (by kernel_rfl) (fun _ _ _ h => h) (Or.inl ⟨by rfl, ?_⟩) (by assumption) ?_
    rotate_left
    · intro w hSw
      (try dsimp only at hSw)
      go_simp
      try with_reducible rfl
    try simp only [Act.put, List.setIfInBounds_toArray, List.set_cons_zero, List.set_cons_succ]
    refine wpAnyH_take (i := 10) (oi := ⟨some 135, _, _, _, _, _⟩) (v := ?_) rfl (by kernel_rfl) (by kernel_rfl) (by kernel_rfl) (fun _ _ _ h => h) (Or.inl ⟨by rfl, ?_⟩) (by assumption) ?_
    rotate_left
    · intro w hSw
      (try dsimp only at hSw)
      go_simp
      try with_reducible rfl
    try simp only [Act.put, List.setIfInBounds_toArray, List.set_cons_zero, List.set_cons_succ]
    refine wpAnyH_ready (rs := [11]) (by kernel_rfl) (by simp) ?_
    refine AllReadyH.cons (o := ⟨some 136, _, _, _, _, _⟩) rfl (fun K hK => ?_) AllReadyH.nil
    go_simp
    go_at_call 13
    refine (known_any _).mono ?_
    rintro e w' ⟨rfl, hb7⟩
    have hb8 := below_call hb6 hb6.size hb7
    have hx8 := HX.out _ hb8
    go_wp2_with fail
    refine hK.out _ _ (by exact hx8) (fun hHeld => ?_)
    clear hK K
    try simp only [Act.put, List.setIfInBounds_toArray, List.set_cons_zero, List.set_cons_succ]
    refine wpAnyH_take (i := 12) (oi := ⟨some 137, _, _, _, _, _⟩) (v := ?_) rfl (by kernel_rfl) (by kernel_rfl) (by kernel_rfl) (fun _ _ _ h => h) (Or.inl ⟨by rfl, ?_⟩) (by assumption) ?_
    rotate_left
    · intro w hSw
      (try dsimp only at hSw)
      go_simp
      try with_reducible rfl
    try simp only [Act.put, List.setIfInBounds_toArray, List.set_cons_zero, List.set_cons_succ]
    refine wpAnyH_ready (rs := [13]) (by kernel_rfl) (by simp) ?_
    refine AllReadyH.cons (o := ⟨some 4, _, _, _, _, _⟩) rfl (fun K hK => ?_) AllReadyH.nil
    go_simp
    refine hK.out _ _ (by exact hx8) (fun hHeld => ?_)
    clear hK K
    try simp only [Act.put, List.setIfInBounds_toArray, List.set_cons_zero, List.set_cons_succ]
    refine wpAnyH_done (by kernel_rfl) ?_ _
    go_wp2
    go_ret
    exact ⟨rfl, hb8⟩
end Go.Proofs.Ytojklmbbepgciaa
