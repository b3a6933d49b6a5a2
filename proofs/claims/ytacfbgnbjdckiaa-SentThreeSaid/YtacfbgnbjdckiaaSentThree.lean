/- DERIVED. Walk of narthexlaw11's SentThree. -/
import Derived.Test.YtacfbgnbjdckiaaThreeL
import Derived.Test.YtacfbgnbjdckiaaBook
namespace Go.Proofs.Ytacfbgnbjdckiaa
open Go.RowKit

/-- What the law asks of the ledger behind the acknowledgement. -/
structure Told (s : LS) (rs : List Rg) (top k j m rest : Nat) : Prop where
  got : ∃ p, s.got rs = [p] ∧ p.n = j
  lost : (s.lost rs top).length = m ∧ ∀ i, i < m → ∃ p, (s.lost rs top)[i]? = some p ∧ p.n = i
  len : (s.acks rs top).L.length = rest
  sum : sumZ (s.acks rs top).L = ((10 * rest : Nat) : Int)
  old : (rest = 0 ∧ (s.acks rs top).L = []) ∨ (0 < rest ∧ ∃ p, (s.acks rs top).L[0]? = some p ∧ (p.n = m ∨ (j = m ∧ p.n = j + 1)))
  last : (s.acks rs top).L = [] ∨ ∃ p, (s.acks rs top).L[(s.acks rs top).L.length - 1]? = some p ∧ (p.t = ((k - 1 : Nat) : Int) ∨ (j = k - 1 ∧ 2 ≤ k ∧ p.t = ((k - 2 : Nat) : Int)))
theorem map_get {L : List Pk} {m : Nat} (h : L.map (·.n) = List.range m) : L.length = m ∧ ∀ i, i < m → ∃ p, L[i]? = some p ∧ p.n = i := by
  have hl : L.length = m := by
    have := congrArg List.length h
    simpa using this
  refine ⟨hl, fun i hi => ⟨L[i]'(by omega), List.getElem?_eq_getElem (by omega), ?_⟩⟩
  have := congrArg (fun l => l[i]?) h
  simp [List.getElem?_map, List.getElem?_eq_getElem (show i < L.length by omega), List.getElem?_range hi] at this
  exact this
theorem told {k j : Nat} (hk : k < 61) (hj : j < k) : Told (lsT k) [(j, j + 1)] (j + 1) k j (j - 2) (k - 1 - (j - 2)) := by
  have h := chk_all k hk j hj
  unfold chk at h
  simp only [Bool.and_eq_true, beq_iff_eq, decide_eq_true_eq] at h
  obtain ⟨⟨⟨⟨⟨h1, h2⟩, h3⟩, h4⟩, h5⟩, h6⟩ := h
  refine ⟨?_, map_get h2, h3, h4, ?_, ?_⟩
  · cases hg : (lsT k).got [(j, j + 1)] with
    | nil => rw [hg] at h1; cases h1
    | cons p l =>
      rw [hg] at h1
      simp at h1
      exact ⟨p, by rw [h1.2], h1.1⟩
  · cases hL : ((lsT k).acks [(j, j + 1)] (j + 1)).L with
    | nil =>
      rw [hL] at h5
      simp at h5
      exact .inl ⟨by omega, rfl⟩
    | cons p l =>
      rw [hL] at h5
      simp at h5
      exact .inr ⟨by omega, p, rfl, by omega⟩
  · cases hx : ((lsT k).acks [(j, j + 1)] (j + 1)).L[((lsT k).acks [(j, j + 1)] (j + 1)).L.length - 1]? with
    | none =>
      left
      rw [List.getElem?_eq_none_iff] at hx
      exact List.eq_nil_of_length_eq_zero (by omega)
    | some p =>
      rw [hx] at h6
      simp at h6
      right
      refine ⟨p, rfl, ?_⟩
      rcases h6 with h6 | ⟨⟨h6, h7⟩, h8⟩
      · exact .inl h6
      · exact .inr ⟨h6, h7, h8⟩
set_option maxRecDepth 100000 in
set_option maxHeartbeats 4000000 in
theorem three_walk (n at_ : Int) (w : World) (hn : -9223372036854775808 ≤ n ∧ n ≤ 9223372036854775807) (ha : -9223372036854775808 ≤ at_ ∧ at_ ≤ 9223372036854775807) :
    Calls Try.prog 4 #[.int .i64 n, .int .i64 at_] w fun e w' => e = .returned (.bool true) ∧ Below w.heap.size w w' := by
  obtain ⟨hn1, hn2⟩ := hn
  obtain ⟨ha1, ha2⟩ := ha
  have hw1 := withinS_bd n 1 60 (by omega)
  obtain ⟨k, hk, hk1, hk60⟩ : ∃ k : Nat, withinS n 1 60 = (k : Int) ∧ 1 ≤ k ∧ k ≤ 60 := ⟨(withinS n 1 60).toNat, by omega, by omega, by omega⟩
  have HK := Lib.hid hk
  clear hw1 hk
  obtain ⟨k1, hkk, hkk2⟩ : ∃ k1 : Nat, (k : Int) - 1 = (k1 : Int) ∧ k - 1 = k1 := ⟨k - 1, by omega, rfl⟩
  have hw2 := withinS_bd at_ 0 k1 (by omega)
  obtain ⟨j, hj, hjk⟩ : ∃ j : Nat, withinS at_ 0 k1 = (j : Int) ∧ j ≤ k1 := ⟨(withinS at_ 0 k1).toNat, by omega, by omega⟩
  have HJ := Lib.hid hj
  have HKK := Lib.hid hkk2
  have HT := Lib.hid (told (k := k) (j := j) (by omega) (by omega))
  have hk1b : k1 ≤ 59 := by omega
  clear hw2 hj hkk2
  go_enter Try.func4, Try.ntmps4
  go_wp2_with fail
  refine (lnew_any _).mono ?_
  rintro e w1 ⟨b, rfl, hm⟩
  have H0 := Lib.hid (show LMine w w1 b (lsT 0) from hm)
  clear hm
  go_wp2_with fail
  refine (within_any n 1 60 _ (by omega) (by omega) (by omega) (by omega) (by omega)).mono ?_
  rw [HK.out]
  rintro e w2 ⟨rfl, hw⟩
  obtain rfl := hw
  go_upto_block 0 with fail
  go_cut [] (fun wx => LMine w wx b (lsT k))
  case first =>
    go_wp2_with fail
    go_loopw [7] (fun i wr => ∃ q : Nat, i = .int .i64 q ∧ q ≤ k ∧ LMine w wr b (lsT q)) (fun i _ => k - (intOf i).toNat)
    case atStart => exact ⟨0, rfl, by omega, H0.out⟩
    case round =>
      obtain ⟨q, rfl, hq, hm⟩ := hrel
      have HM := Lib.hid hm
      clear hm H0
      by_cases hlt : q < k
      · obtain ⟨fp, hO, hnw, hb⟩ := HM.out
        have hwq : IntKind.u64.wrap (q : Int) = q := IntWalk.u64_in _ (by omega)
        go_wp2_with fail
        refine (ladd_yes b (lsT q) fp q q 10 _ (by exact hO) (Nat.le_refl _) (by omega) (by omega) (by omega) (by omega) (by omega) (by simp [lsT]; omega)).mono ?_
        rintro e w2 ⟨rfl, hm⟩
        have h2 := lm_mine hnw hb hm
        rw [show (⟨q, (q : Int), 10, true, .slice none 0 0⟩ : Pk) = pkT q from rfl, lsT_succ] at h2
        have H2 := Lib.hid h2
        clear h2 hm hO hnw hb HM
        go_wp2_with fail
        go_roundw
        case rel => exact ⟨q + 1, by go_num, by omega, H2.out⟩
        case measure => simp [intOf]; omega
      · obtain rfl : q = k := by omega
        go_wp2_with fail
        go_meet
        case rel => exact HM.out
  case rest =>
    have H1 := Lib.hid hcut
    clear hcut H0
    generalize wc = w2 at *
    go_wp2_with fail
    refine (within_any at_ 0 k1 _ (by omega) (by omega) (by omega) (by omega) (by omega)).mono ?_
    rw [HJ.out]
    rintro e w3 ⟨rfl, hw⟩
    obtain rfl := hw
    obtain ⟨m, hm⟩ : ∃ m, j - 2 = m := ⟨_, rfl⟩
    obtain ⟨rest, hrest⟩ : ∃ rest, k - 1 - m = rest := ⟨_, rfl⟩
    rw [hm, hrest] at HT
    have hmx : (2 < j ∧ (j : Int) - 2 = (m : Int) ∧ 0 < m) ∨ (j ≤ 2 ∧ m = 0) := by omega
    have hri : (k1 : Int) - (m : Int) = (rest : Int) := by have := HKK.out; omega
    have hmb : m ≤ 57 := by omega
    have hrb : rest ≤ 59 := by omega
    have hwj : IntKind.u64.wrap (j : Int) = j := IntWalk.u64_in _ (by omega)
    obtain ⟨j1, hj1, hj1b⟩ : ∃ j1 : Nat, (j : Int) + 1 = (j1 : Int) ∧ j + 1 = j1 := ⟨j + 1, by omega, rfl⟩
    have hwj1 : IntKind.u64.wrap (j1 : Int) = j1 := IntWalk.u64_in _ (by omega)
    have HJ1 := Lib.hid hj1b
    have HM := Lib.hid hm
    clear hm hrest hj1b
    go_wp2_with fail
    obtain ⟨fp, hO, hnw, hb⟩ := H1.out.alloc (.cells #[.int .u64 j, .int .u64 j1] 37)
    have HJK := Lib.hid (show j + 1 ≤ k by have := HKK.out; omega)
    refine (lack_norm b (lsT k) fp _ [(j, j1)] j1 _ (by exact hO) (by exact one_vw w2 j j1) (by simp) (one_norm (by have := HJ1.out; omega) (by have := HJ1.out; omega)) (by simp) (by simp) one_top (by show j1 ≤ k; have := HJK.out; have := HJ1.out; omega) (by have := HJ1.out; omega)).mono ?_
    rintro e w4 ⟨v1, o1, v2, o2, rfl, hs1, hs2, hg1, hg2, hml⟩
    rw [HJ1.out] at HT
    have H4 := Lib.hid (lm_mine hnw hb hml)
    obtain ⟨p1, hgot, hp1⟩ := HT.out.got
    rw [hgot] at hs1
    obtain ⟨a1, c1, e1, _, _⟩ := hs1.shape
    obtain ⟨a2, c2, e2, hc2, hc22⟩ := hs2.shape
    rw [HT.out.lost.1] at e2 hc2
    subst e1 e2
    simp only [List.length_cons, List.length_nil, Nat.zero_add] at *
    obtain ⟨g1, of1, ea1, _, q10, _⟩ := hs1.vw.pkt (i := 0) (p := p1) rfl
    subst ea1
    simp only [Nat.zero_mul, Nat.add_zero] at q10
    rw [hp1] at q10
    have HV2 := Lib.hid (show Vw encQ w4 w4.heap.size (.slice a2 m c2) ((lsT k).lost [(j, j1)] j1) from hs2.vw)
    clear hO hnw hb hml hs1 hs2 hg1 hg2 hgot hp1 H1
    go_upto_if 75 with fail
    go_cut [] (fun wx => wx = w4)
    case first =>
      rcases hmx with ⟨x1, x2, x3⟩ | ⟨x1, x2⟩
      · go_wp2_with fail
        go_meet
        case rel => rfl
      · subst x2
        have x3 : ¬ (0 : Int) < (j : Int) - 2 := by omega
        have x4 : (j : Int) - 2 ≤ 0 := by omega
        rcases (by omega : j = 2 ∨ j = 1 ∨ j = 0) with rfl | rfl | rfl
        all_goals go_wp2_with fail
        all_goals go_meet
        all_goals rfl
    case rest =>
      subst hcut
      clear q10 hmx hwj1 hj1
      generalize wc = w4 at *
      go_wp2_with fail
      go_loopw [12] (fun i wr => ∃ q : Nat, i = .int .i64 q ∧ q ≤ m ∧ wr = w4) (fun i _ => m - (intOf i).toNat)
      case atStart => exact ⟨0, rfl, by omega, rfl⟩
      case round =>
        obtain ⟨q, rfl, hq, hwr⟩ := hrel
        subst hwr
        generalize wr = w4 at *
        by_cases hlt : q < m
        · obtain ⟨p, hp, hpq⟩ := HT.out.lost.2 q hlt
          obtain ⟨c, ofc, rfl, hc, q0, _⟩ := HV2.out.pkt hp
          rw [hpq] at q0
          have hwq : IntKind.u64.wrap (q : Int) = q := IntWalk.u64_in _ (by omega)
          clear hp hpq
          go_wp2_with fail
          go_roundw
          case rel => exact ⟨q + 1, by go_num, by omega, by first | rfl | trivial⟩
          case measure => simp [intOf]; omega
        · obtain rfl : q = m := by omega
          obtain ⟨fp, hO, hnw, hb⟩ := H4.out
          have hwm : IntKind.u64.wrap (q : Int) = q := IntWalk.u64_in _ (by omega)
          rcases HT.out.old with ⟨hr0, hL0⟩ | ⟨hr0, p0, hp0, hn0⟩
          · subst hr0
            have HL0 := Lib.hid hL0
            have HO := Lib.hid hO
            have hsz := HT.out.sum
            rw [hL0] at hsz
            have HLN := Lib.hid (show ((lsT k).acks [(j, j1)] j1).L.length = 0 from by rw [hL0]; rfl)
            have HSM := Lib.hid (show sumZ ((lsT k).acks [(j, j1)] j1).L = 0 from by rw [hL0]; rfl)
            clear hL0 hO hsz hlt HV2
            go_wp2_with fail
            refine (lold_none b _ fp _ (by exact HO.out) HL0.out).mono ?_
            rintro e w5 ⟨rfl, hb5⟩
            have HO5 := Lib.hid (HO.out.below hb5)
            have HM5 := Lib.hid (H4.out.later hb5)
            clear hb5 HO
            go_wp2_with fail
            refine (llast_none b _ fp _ (by exact HO5.out.below ((Below.refl _ _).alloc (Nat.le_refl _) _)) HL0.out).mono ?_
            rintro e w6 ⟨rfl, hb6⟩
            have HO6 := Lib.hid ((HO5.out.below ((Below.refl _ _).alloc (Nat.le_refl _) _)).below hb6)
            have HM6 := Lib.hid ((HM5.out.alloc _).later hb6)
            clear hb6 HO5 HM5
            go_wp2_with fail
            refine (llen_q b _ fp _ (by exact HO6.out)).mono ?_
            rw [HLN.out]
            rintro e w7 ⟨rfl, x, rfl⟩
            have HO7 := Lib.hid (HO6.out.drewN x)
            have HM7 := Lib.hid (HM6.out.drewN x)
            generalize w6.drewN x = w7 at *
            clear HO6 HM6
            go_wp2_with fail
            refine (lflight_any b _ fp _ (by exact HO7.out)).mono ?_
            rw [HSM.out]
            rintro e w8 ⟨rfl, hb8⟩
            have HM8 := Lib.hid (HM7.out.later hb8)
            clear hb8 HO7 HM7
            go_wp2_with fail
            refine (known_any _).mono ?_
            rintro e w9 ⟨rfl, hb9⟩
            have HM9 := Lib.hid (HM8.out.later hb9)
            clear hb9
            go_wp2_with fail
            go_ret
            exact ⟨rfl, HM9.out.below⟩
          · obtain ⟨pl, hpl, hlt2⟩ := HT.out.last.resolve_left (fun e => by rw [e] at hp0; cases hp0)
            have HO := Lib.hid hO
            have HP0 := Lib.hid hp0
            have HPL := Lib.hid hpl
            have HLN := Lib.hid HT.out.len
            obtain ⟨sm, hsm⟩ : ∃ sm : Nat, 10 * rest = sm := ⟨_, rfl⟩
            have HSM := Lib.hid (show sumZ ((lsT k).acks [(j, j1)] j1).L = (sm : Int) from by rw [HT.out.sum, hsm])
            have hsmi : (10 : Int) * (rest : Int) = (sm : Int) := by omega
            have hsmb : sm ≤ 600 := by omega
            have hr0i : (0 : Int) < (rest : Int) := by omega
            obtain ⟨n0, hn00⟩ : ∃ n0, p0.n = n0 := ⟨_, rfl⟩
            obtain ⟨tl, htl⟩ : ∃ tl, pl.t = tl := ⟨_, rfl⟩
            rw [hn00] at hn0
            rw [htl, HKK.out] at hlt2
            clear hp0 hpl hO hsm hlt HV2 
            go_wp2_with fail
            refine (lold_some b _ fp p0 _ (by exact HO.out) HP0.out).mono ?_
            rintro e w5 ⟨rfl, hb5⟩
            have HO5 := Lib.hid (HO.out.below hb5)
            have HM5 := Lib.hid (H4.out.later hb5)
            clear hb5 HO
            simp only [encQ, hn00]
            go_wp2_with fail
            refine (llast_some b _ fp pl _ (by exact HO5.out.below ((Below.refl _ _).alloc (Nat.le_refl _) _)) HPL.out).mono ?_
            rw [htl]
            rintro e w6 ⟨rfl, hb6⟩
            have HO6 := Lib.hid ((HO5.out.below ((Below.refl _ _).alloc (Nat.le_refl _) _)).below hb6)
            have HM6 := Lib.hid ((HM5.out.alloc _).later hb6)
            have hz6 := below_keeps hb6 (alloc_at _ _) (by simp)
            obtain ⟨z, hz⟩ : ∃ z, w5.heap.size = z := ⟨_, rfl⟩
            rw [hz] at hz6
            have HZ6 := Lib.hid hz6
            clear hb6 HO5 HM5 hz6
            go_wp2_with fail
            refine (llen_q b _ fp _ (by exact HO6.out)).mono ?_
            rw [HLN.out]
            rintro e w7 ⟨rfl, x, rfl⟩
            have HO7 := Lib.hid (HO6.out.drewN x)
            have HM7 := Lib.hid (HM6.out.drewN x)
            have HZ7 := Lib.hid (show (w6.drewN x).heap[z]? = _ from HZ6.out)
            generalize w6.drewN x = w7 at *
            clear HO6 HM6 HZ6
            go_wp2_with fail
            refine (lflight_any b _ fp _ (by exact HO7.out)).mono ?_
            rw [HSM.out]
            rintro e w8 ⟨rfl, hb8⟩
            have HM8 := Lib.hid (HM7.out.later hb8)
            have hz8 := below_keeps hb8 HZ7.out (heap_lt HZ7.out)
            have z0 := (cell_at hz8 0).trans (by rfl : _ = some (Value.int .u64 n0))
            clear hb8 HO7 HM7 hz8 HZ7
            obtain ⟨k2, hk2, hk2b⟩ : ∃ k2 : Nat, k - 2 = k2 ∧ (2 ≤ k → (k : Int) - 2 = (k2 : Int)) := ⟨k - 2, rfl, fun h => by omega⟩
            rw [hk2] at hlt2
            have hwj1 : IntKind.u64.wrap (j1 : Int) = j1 := IntWalk.u64_in _ (by have := HJ1.out; omega)
            have hj1 : (j : Int) + 1 = (j1 : Int) := by have := HJ1.out; omega
            have HF := Lib.hid (show (n0 = q ∨ (j = q ∧ n0 = j1)) from by have := HJ1.out; omega)
            have HL9 := Lib.hid (show (tl = (k1 : Int) ∨ (j = k1 ∧ tl = (k2 : Int) ∧ (k : Int) - 2 = (k2 : Int) ∧ ¬ (k2 : Int) = (k1 : Int) ∧ ¬ k2 = k1)) from by
              have := HKK.out
              rcases hlt2 with y | ⟨y1, y2, y3⟩
              · exact .inl y
              · right
                have := hk2b y2
                omega)
            have hjj : ¬ j1 = j ∧ ¬ (j1 : Int) = (j : Int) := by omega
            obtain ⟨hjj1, hjj2⟩ := hjj
            clear hn0 hlt2 hk2 hk2b htl hn00
            rcases HF.out with y1 | ⟨y1, y2⟩
            all_goals rcases HL9.out with y3 | ⟨y3, y4, y5, y6, y7⟩
            · subst y1 y3
              clear HF HL9
              go_wp2_with fail
              refine (known_any _).mono ?_
              rintro e w9 ⟨rfl, hb9⟩
              have HM9 := Lib.hid (HM8.out.later hb9)
              clear hb9
              go_wp2_with fail
              go_ret
              exact ⟨rfl, HM9.out.below⟩
            · subst y1 y4 y3
              clear HF HL9
              go_wp2_with fail
              refine (known_any _).mono ?_
              rintro e w9 ⟨rfl, hb9⟩
              have HM9 := Lib.hid (HM8.out.later hb9)
              clear hb9
              go_wp2_with fail
              go_ret
              exact ⟨rfl, HM9.out.below⟩
            · subst y1 y2 y3
              clear HF HL9
              go_wp2_with fail
              refine (known_any _).mono ?_
              rintro e w9 ⟨rfl, hb9⟩
              have HM9 := Lib.hid (HM8.out.later hb9)
              clear hb9
              go_wp2_with fail
              go_ret
              exact ⟨rfl, HM9.out.below⟩
            · exfalso
              have := HM.out
              have := HKK.out
              omega
end Go.Proofs.Ytacfbgnbjdckiaa
