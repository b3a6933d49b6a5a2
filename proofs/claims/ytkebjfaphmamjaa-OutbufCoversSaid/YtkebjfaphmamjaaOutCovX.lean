/- DERIVED. Walk of narthexlaw15's OutbufCovers. -/
import Derived.Test.YtkebjfaphmamjaaCovL
import Derived.Test.YtkebjfaphmamjaaKCut
import Derived.Test.YtkebjfaphmamjaaOutNextE
import Derived.Test.YtkebjfaphmamjaaOutRoom
namespace Go.Proofs.Ytkebjfaphmamjaa
open Go.RowKit

theorem infoL : (Try.prog.info? 4).map (fun i => (i.zero, i.size, i.bytes)) = some (some (.bool false), 1, 1) := by kernel_rfl
theorem flatL (l : List Bool) : flat encL l = l.map Value.bool := by
  induction l with
  | nil => rfl
  | cons x l ih => rw [flat_cons, ih]; rfl
theorem make_bools (n : Nat) (h : n ≤ 1000) : ∃ Z : Array Value, (∀ w : World, (Instr.makeSlice 41 (.int .i64 (n : Int)) (.int .i64 (n : Int))).run Try.prog w = .ok (.slice (some ⟨w.heap.size, 0, none⟩) n n) (w.alloc (.cells Z 4))) ∧ Z.toList = flat encL (List.replicate n false) := by
  obtain ⟨i0, hi0, hz0, hz1, hz2'⟩ := info_parts infoL
  refine ⟨madeCells (Value.bool false).cells n, fun w => ?_, ?_⟩
  · have := run_make (P := Try.prog) w 41 4 i0 _ Try.underlying41 hi0 hz0 .i64 .i64 n n (by omega) (by omega) (by rw [hz2']; omega) (by omega)
    rw [this, hz1]
    simp
  · show (madeCells #[Value.bool false] n).toList = _
    rw [toList_madeCells_one, flatL, List.map_replicate]
theorem write_zero {A : List Nat} (h : A.length ≤ 200) : OS.zero.write A = { OS.zero with B := A } := by
  unfold OS.write
  have : min A.length OS.zero.room = A.length := by
    show min A.length 2048 = _
    omega
  rw [this, List.take_length]
  rfl
/-- The buffer, and the flags of what went. -/
def Cv (W w : World) (b g : Nat) (A : List Nat) (wt : List Bool) (s : OS) : Prop :=
  ∃ fp, OAt w b s fp ∧ (∀ k, fp k → W.heap.size ≤ k) ∧ Below W.heap.size W w ∧ Row encL w 4 g wt ∧ W.heap.size ≤ g ∧ ¬ fp g ∧ s.B = A
theorem Cv.om {W w w' : World} {b g : Nat} {A : List Nat} {wt : List Bool} {s' : OS} {fp : Nat → Prop} (h2 : ∀ k, fp k → W.heap.size ≤ k) (h3 : Below W.heap.size W w) (h4 : Row encL w 4 g wt) (h5 : W.heap.size ≤ g) (h6 : ¬ fp g) (m : OM w w' fp b s') (hB : s'.B = A) : Cv W w' b g A wt s' := by
  obtain ⟨fp', h7, h8⟩ := m
  have hs := h3.size
  have hg := heap_lt h4
  refine ⟨fp', h7, fun k hk => ?_, Upd.onto h3 h8.upd hs (fun k hk q => by have := h2 k q; omega), h8.upd.keeps h4 h6, h5, fun q => ?_, hB⟩
  · rcases h8.new k hk with q | q
    · exact h2 k q
    · omega
  · rcases h8.new g q with q | q
    · exact h6 q
    · omega
theorem Cv.later {W w w' : World} {b g : Nat} {A : List Nat} {wt : List Bool} {s : OS} (h : Cv W w b g A wt s) (hb : Below w.heap.size w w') : Cv W w' b g A wt s := by
  obtain ⟨fp, h1, h2, h3, h4, h5, h6, h7⟩ := h
  exact ⟨fp, h1.below hb, h2, below_call h3 h3.size hb, below_keeps hb h4 (heap_lt h4), h5, h6, h7⟩
theorem Cv.drewN {W w : World} {b g : Nat} {A : List Nat} {wt : List Bool} {s : OS} (h : Cv W w b g A wt s) (n : Nat) : Cv W (w.drewN n) b g A wt s := h.later (below_drewN (Below.refl _ _) n)
theorem Cv.put {W w : World} {b g : Nat} {A : List Nat} {wt : List Bool} {s : OS} (h : Cv W w b g A wt s) (j : Nat) : Cv W (w.setCell ⟨g, j, none⟩ (.bool true)) b g A (wt.set j true) s := by
  obtain ⟨fp, h1, h2, h3, h4, h5, h6, h7⟩ := h
  have hu : Upd (fun k => k = g) w (w.setCell ⟨g, j, none⟩ (.bool true)) := (Upd.refl (fun k => k = g) w).setCell ⟨g, j, none⟩ (.inl rfl) _
  have hs := h3.size
  refine ⟨fp, h1.keeps hu (fun k hk e => h6 (e ▸ hk)), h2, Upd.onto h3 hu hs (fun k hk e => by omega), ?_, h5, h6, h7⟩
  have := set_at h4 j (.bool true)
  unfold Row
  rw [this, flatL, flatL]
  congr 2
  apply Array.toList_inj.1
  simp [List.map_set]
theorem Cv.cell {W w : World} {b g : Nat} {A : List Nat} {wt : List Bool} {s : OS} (h : Cv W w b g A wt s) {j : Nat} {x : Bool} (hx : wt[j]? = some x) : w.cell? ⟨g, j, none⟩ = some (.bool x) ∧ w.frozen? ⟨g, j, none⟩ = false := by
  obtain ⟨fp, h1, h2, h3, h4, h5, h6, h7⟩ := h
  refine ⟨?_, free_at h4 j⟩
  rw [cell_at h4, flatL]
  simp [hx]
/-- Between two rounds: k of them are over. -/
def CovR (W w : World) (b g n : Nat) (A : List Nat) (k : Nat) (E : Bool) : Prop := ∃ wt s, k + lft s n ≤ 501 ∧ CI s n wt E ∧ Cv W w b g A wt s
theorem CovR.of {W w : World} {b g n : Nat} {A : List Nat} {k : Nat} {E : Bool} {wt : List Bool} {s : OS} (h1 : k + lft s n ≤ 501) (h2 : CI s n wt E) (h3 : Cv W w b g A wt s) : CovR W w b g n A k E := ⟨wt, s, h1, h2, h3⟩
/-- A piece has come. -/
def CovM (W w : World) (b g n : Nat) (A : List Nat) (k : Nat) (E : Bool) (f d : Nat) (fin : Bool) : Prop := ∃ wt s, k + lft s n ≤ 501 ∧ lft s n ≤ 201 ∧ CM s n wt E f (f + d) fin ∧ Cv W w b g A wt s
theorem CovM.drewN {W w : World} {b g n : Nat} {A : List Nat} {k : Nat} {E : Bool} {f d : Nat} {fin : Bool} (h : CovM W w b g n A k E f d fin) (m : Nat) : CovM W (w.drewN m) b g n A k E f d fin := by
  obtain ⟨wt, s, h1, h2, h3, h4⟩ := h
  exact ⟨wt, s, h1, h2, h3, h4.drewN m⟩
/-- While the flags are put. -/
def CovT (W w : World) (b g n : Nat) (A : List Nat) (k : Nat) (E : Bool) (wt : List Bool) (f d m : Nat) : Prop := ∃ s, k + 1 + lft s n ≤ 501 ∧ CI s n (setT wt f d) E ∧ Cv W w b g A (setT wt f m) s
theorem lvw {w : World} {B : Nat} {oa : Option Addr} {n cap : Nat} {L : List Bool} (h : Vw encL w B (.slice oa n cap) L) {i : Nat} {x : Bool} (ha : L[i]? = some x) :
    ∃ b off, oa = some ⟨b, off, none⟩ ∧ b < B ∧ w.cell? ⟨b, off + i, none⟩ = some (.bool x) := by
  obtain ⟨b, off, h1, h2, h3⟩ := h.el (k := 1) (fun _ => rfl) ha
  refine ⟨b, off, h1, h2, ?_⟩
  have := h3 0 (by omega)
  simpa [encL] using this
theorem Rds.drewN {w : World} {v : Value} {xs : List Nat} (h : Rds w v xs) (n : Nat) : Rds (w.drewN n) v xs := h
theorem lft_went (s : OS) (f t n : Nat) : lft (s.went f t) n = lft s n := rfl

set_option maxRecDepth 100000 in
set_option maxHeartbeats 8000000 in
theorem cov_walk (va vb vc : Value) (la : List Nat) (lb : List Int) (lc : List Bool) (w : World) (ha : Vw encB w w.heap.size va la) (hba : Bys la) (hb : Vw encN w w.heap.size vb lb) (hB : ∀ x ∈ lb, I64 x) (hc : Vw encL w w.heap.size vc lc) :
    Calls Try.prog 5 #[va, vb, vc] w fun e w' => e = .returned (.bool true) ∧ Below w.heap.size w w' := by
  obtain ⟨oa, lena, capa, rfl, hla, hca, hca2, hva⟩ := kcut_v ha 200 (by omega)
  have hA1 : (la.take 200).length = min lena 200 := by rw [List.length_take]; omega
  have hA2 : Bys (la.take 200) := fun x hx => hba x (List.mem_of_mem_take hx)
  obtain ⟨ob, capb, rfl, hcb1, hcb2⟩ := hb.shape
  obtain ⟨oc, capc, rfl, hcc1, hcc2⟩ := hc.shape
  clear ha hba
  generalize la.take 200 = A at *
  obtain ⟨n, hna, hna1, hna2⟩ : ∃ n, min lena 200 = n ∧ n ≤ 200 ∧ n ≤ capa := ⟨_, rfl, by omega, by omega⟩
  rw [hna] at hA1 hva
  have HVA := Lib.hid hva
  have HA := Lib.hid (And.intro hA1 hA2)
  have HNA := Lib.hid hna
  have HVB := Lib.hid hb
  have HVC := Lib.hid hc
  have HBO := Lib.hid hB
  clear hva hA1 hA2 hna hb hc hB hla
  generalize hnb : lb.length = nb at *
  generalize hnc : lc.length = nc at *
  have HNB := Lib.hid hnb
  have HNC := Lib.hid hnc
  clear hnb hnc
  obtain ⟨Z, hZ, hZl⟩ := make_bools n (by omega)
  have HZL := Lib.hid hZl
  clear hZl
  have HSR := Lib.hid (show A.length ≤ 200 ∧ min A.length OS.zero.room = n by
    have := HA.out.1
    refine ⟨by omega, ?_⟩
    show min A.length 2048 = n
    omega)
  go_enter Try.func5, Try.ntmps5
  go_wp2_with fail
  refine (onew_any _).mono ?_
  rintro e w1 ⟨b, fp1, rfl, hi, hn, hbb⟩
  have HO := Lib.hid hi
  have HN := Lib.hid hn
  have HBB := Lib.hid hbb
  clear hi hn hbb
  go_wp2_with fail
  refine (kcut_q oa lena capa 200 _ hca hca2 (by omega)).mono ?_
  rw [HNA.out]
  rintro e w' ⟨rfl, hw⟩
  obtain rfl := hw
  go_wp2_with fail
  refine (owrite_any b OS.zero fp1 _ A _ (by exact HO.out) (by exact HVA.out.below HBB.out) HBB.out.size HA.out.2 (by show 0 ≤ _; omega) (by have := HSR.out.1; omega) (by show 0 ≤ _; omega)).mono ?_
  rw [HSR.out.2, write_zero HSR.out.1]
  rintro e w2 ⟨rfl, hm⟩
  have H2 := Lib.hid (om_mine HN.out HBB.out hm)
  clear hm HO HN HBB
  obtain ⟨fp2, hO, hn, hbb⟩ := H2.out
  have HO := Lib.hid hO
  have HN := Lib.hid hn
  have HBB := Lib.hid hbb
  clear hO hn hbb
  go_wp2_with fail
  refine (ofinish_any b _ fp2 _ (by exact HO.out)).mono ?_
  rintro e w3 ⟨he, hm⟩
  obtain rfl : e = .returned (.bool true) := he
  have H3 := Lib.hid (om_mine HN.out HBB.out hm)
  clear hm HO HN HBB H2
  go_wp2_with fail
  have H4 := Lib.hid (show CovR w (w3.alloc (.cells Z 4)) b w3.heap.size n A 0 false from by
    obtain ⟨fp, h1, h2, h3⟩ := H3.out
    have hst := CI.start HA.out.1 hna1 HA.out.2
    refine CovR.of (s := { OS.zero with B := A, fi := true }) (by have := hst.lft_le; omega) hst ⟨fp, h1.below ((Below.refl _ _).alloc (Nat.le_refl _) _), h2, h3.alloc h3.size _, ?_, h3.size, fun q => by have := h1.lt.2 _ q; omega, rfl⟩
    unfold Row
    rw [alloc_at, ← HZL.out])
  generalize w3.heap.size = g at *
  generalize w3.alloc _ = w4 at *
  clear H3 hZ
  go_loopw [9, 10, 11, 12, 13, 14, 15, 16, 143, 144] (fun e i _ _ _ _ _ _ _ _ wr => ∃ (k : Nat) (E : Bool), i = .int .i64 k ∧ e = .bool E ∧ k ≤ 501 ∧ CovR w wr b g n A k E) (fun _ i _ _ _ _ _ _ _ _ _ => 700 - (intOf i).toNat)
  case atStart => exact ⟨0, false, rfl, rfl, by omega, H4.out⟩
  case round =>
    obtain ⟨k, E, rfl, rfl, hk, hst⟩ := hrel
    have HST := Lib.hid hst
    clear hst H4
    have hk7 : k < 700 := by omega
    go_upto_if 46 with fail
    go_cut [11] (fun v wx => ∃ kk : Nat, v = .int .i64 kk ∧ 1 ≤ kk ∧ kk ≤ 50 ∧ wx = wr)
    case first =>
      by_cases hlt : k < nb
      · obtain ⟨x, hx⟩ : ∃ x, lb[k]? = some x := ⟨_, List.getElem?_eq_getElem (by rw [HNB.out]; exact hlt)⟩
        obtain ⟨c, ofc, rfl, hc, q0⟩ := HVB.out.num hx
        obtain ⟨hx1, hx2⟩ := HBO.out x (List.mem_of_getElem? hx)
        have hbel : Below w.heap.size w wr := by
          obtain ⟨wt, s, _, _, fp, _, _, h, _⟩ := HST.out
          exact h
        have q0 := cell_keep hbel hc q0
        have hw1 := withinS_bd x 1 50 (by omega)
        obtain ⟨m, hm, hm1, hm9⟩ : ∃ m : Nat, withinS x 1 50 = (m : Int) ∧ 1 ≤ m ∧ m ≤ 50 := ⟨(withinS x 1 50).toNat, by omega, by omega, by omega⟩
        have HM := Lib.hid hm
        clear hw1 hm hx hbel
        go_wp2_with fail
        refine (within_any x 1 50 _ (by omega) (by omega) (by omega) (by omega) (by omega)).mono ?_
        rw [HM.out]
        rintro e w2 ⟨rfl, hw⟩
        obtain rfl := hw
        go_wp2_with fail
        go_meet
        case rel => exact ⟨m, rfl, hm1, hm9, rfl⟩
      · go_wp2_with fail
        go_meet
        case rel => exact ⟨7, rfl, by omega, by omega, rfl⟩
    case rest =>
      obtain ⟨kk, rfl, hkk1, hkk2, rfl⟩ := hcut
      generalize wc = wr at *
      obtain ⟨wt, s, hl, hci, hcv⟩ := HST.out
      have HL := Lib.hid (And.intro hl hci.lft_le)
      have HCV := Lib.hid hcv
      have HCI := Lib.hid hci
      have hlen := hci.len
      have hnx := hci.next hkk1
      obtain ⟨fp, hO, hn, hbb, hrow, hg, hgf, hsB⟩ := hcv
      have HO := Lib.hid hO
      have HN := Lib.hid (show (∀ j, fp j → w.heap.size ≤ j) ∧ Below w.heap.size w wr ∧ Row encL wr 4 g wt ∧ w.heap.size ≤ g ∧ ¬ fp g ∧ s.B = A from ⟨hn, hbb, hrow, hg, hgf, hsB⟩)
      have HLEN := Lib.hid hlen
      clear hl hci hlen hO hn hbb hrow hg hgf hsB HST
      rcases hnx with ⟨f, t0, t, hpt, hbf, hft, hmt, htn, ht0, hcl, hcm⟩ | ⟨hy, hsn, hen, hcm⟩ | ⟨hy, hsn, hen⟩
      · have HPT := Lib.hid hpt
        have HBF := Lib.hid hbf
        have HCL := Lib.hid hcl
        have HMT := Lib.hid hmt
        have HCM := Lib.hid hcm
        clear hpt hbf hcl hmt hcm HCI
        go_wp2_with fail
        refine (onext_go b s fp kk 1000 f t0 t _ (by exact HO.out) (by omega) HPT.out HBF.out hft (by rw [Int.toNat_natCast]; exact HMT.out) (by rw [HLEN.out]; exact htn) (by rw [HLEN.out]; omega) ht0 HCL.out (by omega) (by omega)).mono ?_
        obtain ⟨d, hd, hd0⟩ : ∃ d, t - f = d ∧ 0 < d := ⟨_, rfl, by omega⟩
        obtain rfl : t = f + d := by omega
        obtain ⟨fin, hfin⟩ : ∃ fin, (decide (f + d = s.B.length) && s.ende) = fin := ⟨_, rfl⟩
        have hfe : fin = true → f + d = n := by
          intro q
          rw [← hfin] at q
          simp only [Bool.and_eq_true, decide_eq_true_eq] at q
          have := HLEN.out
          omega
        have HFE := Lib.hid hfe
        rw [hd, hfin]
        rw [hfin] at HCM
        rintro e w5 ⟨v, og, rfl, hm, hsv, hgv⟩
        have hmm := HMT.out
        have hdk : d ≤ kk := by omega
        have HSB := Lib.hid HN.out.2.2.2.2.2
        have H5 := Lib.hid (show CovM w w5 b g n A k E f d fin from ⟨wt, s.went f (f + d), HL.out.1, HL.out.2, HCM.out, Cv.om HN.out.1 HN.out.2.1 HN.out.2.2.1 HN.out.2.2.2.1 HN.out.2.2.2.2.1 hm HSB.out⟩)
        have HV5 := Lib.hid (show Vw encB w5 w5.heap.size v ((A.drop f).take d) from by rw [← HSB.out]; exact hsv.vw)
        have HBW := Lib.hid (show Below w.heap.size w w5 from by
          obtain ⟨_, _, _, _, _, _, _, _, h, _⟩ := H5.out
          exact h)
        have hDl : ((A.drop f).take d).length = d := by rw [List.length_take, List.length_drop, HA.out.1]; omega
        obtain ⟨ov, cv, rfl, hcv1, hcv2⟩ := HV5.out.shape
        rw [hDl] at HV5 hcv1 ⊢
        have HDL := Lib.hid hDl
        clear hfe hfin hd hm hsv hgv hmm hDl HSB HMT HCL HBF HPT HCM HL HCV HO HN HLEN ht0
        obtain ⟨ba, ofa, rfl⟩ : ∃ ba ofa, oa = some ⟨ba, ofa, none⟩ := by
          obtain ⟨x, hx⟩ : ∃ x, A[0]? = some x := ⟨_, List.getElem?_eq_getElem (by rw [HA.out.1]; omega)⟩
          obtain ⟨bb, ofb, h, _⟩ := HVA.out.byte hx
          exact ⟨bb, ofb, h⟩
        have hvp := (HVA.out.below HBW.out).part encB_len f d (capa - f) (by rw [HA.out.1]; omega) (by omega) (by omega)
        rw [Nat.mul_one] at hvp
        have hx1 := fun m => (HV5.out.rds.drewN m).str (P := Try.prog) (src := 28) (dst := 9) Try.underlying28 Try.underlying5 Try.underlying9
        have hx2 := fun m => (hvp.rds.drewN m).str (P := Try.prog) (src := 28) (dst := 9) Try.underlying28 Try.underlying5 Try.underlying9
        obtain ⟨t, ht, ht2⟩ : ∃ t : Nat, (f : Int) + (d : Int) = (t : Int) ∧ f + d = t := ⟨f + d, by omega, rfl⟩
        have htf : t - f = d := by omega
        have htn2 : t ≤ n := by omega
        have htc : t ≤ capa := by omega
        have hfn : decide (n < f) = false := by simp; omega
        have hnt : decide (n < t) = false := by simp; omega
        have hkd : decide (kk < d) = false := by simp; omega
        have hfn2 : decide ((n : Int) < (f : Int)) = false := by simp; omega
        have hnt2 : decide ((n : Int) < (t : Int)) = false := by simp; omega
        have hkd2 : decide ((kk : Int) < (d : Int)) = false := by simp; omega
        have hft2 : f ≤ t := by omega
        have hcf : ¬ capa = f := by omega
        have hwn : IntKind.u64.wrap (n : Int) = n := IntWalk.u64_in _ (by omega)
        have hwd : IntKind.u64.wrap (d : Int) = d := IntWalk.u64_in _ (by omega)
        have hwt : IntKind.u64.wrap (t : Int) = t := IntWalk.u64_in _ (by omega)
        have HFE2 := Lib.hid (show fin = true → t = n from fun q => by have := HFE.out q; omega)
        have HT2 := Lib.hid ht2
        generalize strB ((A.drop f).take d) = str at *
        clear hvp ht2 htn hd0 hdk HFE HBW hft
        go_upto_region 15 with fail
        go_cut [111] (fun v wx => v = .bool false ∧ CovM w wx b g n A k E f d fin)
        case first =>
          as_aux_lemma =>
            cases fin
            · go_wp2_with fail
              go_quiet (fail)
              go_wp2_with fail
              go_meet
              case rel => exact ⟨rfl, H5.out.drewN _⟩
            · have htn3 : t = n := HFE2.out rfl
              subst htn3
              go_wp2_with fail
              go_quiet (fail)
              go_wp2_with fail
              go_meet
              case rel => exact ⟨rfl, H5.out.drewN _⟩
        case rest =>
          as_aux_lemma =>
            obtain ⟨rfl, hc6⟩ := hcut
            have hfd : f + d ≤ n := by have := HT2.out; omega
            clear hx1 hx2 hwn hwd hwt hfn hnt hkd hfn2 hnt2 hkd2 hcf ht htf hft2 HV5 H5 str
            have H6 := Lib.hid (show CovM w wc b g n A k E f d fin from hc6)
            clear hc6
            generalize wc = w6 at *
            have HBW := Lib.hid (show Below w.heap.size w w6 from by
              obtain ⟨_, _, _, _, _, _, _, _, h, _⟩ := H6.out
              exact h)
            obtain ⟨lz, hlz⟩ : ∃ lz, (decide (k < nc) && decide (k < 300) && lc.getD k false) = lz := ⟨_, rfl⟩
            have HLZ := Lib.hid hlz
            clear hlz
            go_upto_region 17 with fail
            go_cut [125] (fun v wx => v = .bool lz ∧ wx = w6)
            case first =>
              by_cases q1 : k < nc
              · by_cases q2 : k < 300
                · obtain ⟨x, hx⟩ : ∃ x, lc[k]? = some x := ⟨_, List.getElem?_eq_getElem (by rw [HNC.out]; exact q1)⟩
                  have hxl : x = lz := by
                    rw [← HLZ.out, List.getD_eq_getElem?_getD, hx]
                    simp [q1, q2]
                  subst hxl
                  obtain ⟨c, ofc, rfl, hc, q0⟩ := lvw HVC.out hx
                  have q0 := cell_keep HBW.out hc q0
                  clear hx
                  go_wp2_with fail
                  go_meet
                  case rel => exact ⟨rfl, rfl⟩
                · have hxl : lz = false := by rw [← HLZ.out]; simp [q2]
                  subst hxl
                  go_wp2_with fail
                  go_meet
                  case rel => exact ⟨rfl, rfl⟩
              · have hxl : lz = false := by rw [← HLZ.out]; simp [q1]
                subst hxl
                go_wp2_with fail
                go_meet
                case rel => exact ⟨rfl, rfl⟩
            case rest =>
              obtain ⟨rfl, rfl⟩ := hcut
              generalize wc = w6 at *
              obtain ⟨wt, s, hl1, hl2, hcm, fp, hO, hn, hbb, hrow, hg, hgf, hsB⟩ := H6.out
              have HSB := Lib.hid hsB
              have HCM := Lib.hid hcm
              have HO := Lib.hid hO
              have hnn := hcm.n200
              have HLT := Lib.hid (And.intro hl1 hl2)
              have HWL := Lib.hid hcm.wl
              have HNR := Lib.hid (And.intro hn (And.intro hbb (And.intro hrow (And.intro hg hgf))))
              clear hn hbb hrow hg hgf hO hl1 hl2 hsB
              cases lz
              · obtain ⟨zs, yz, at_, a1, a2, a3, a4, a5, a6, a7, a8, a9, a10⟩ := hcm.acked
                rw [show f + d - f = d by omega] at a1 a4 a9
                have A1 := Lib.hid (And.intro a1 (And.intro a2 (And.intro a3 (And.intro a4 (And.intro a5 (And.intro a6 (And.intro a7 (And.intro a8 (And.intro a9 a10)))))))))
                clear a1 a2 a3 a4 a5 a6 a7 a8 a9 a10 hcm H6
                go_wp2_with fail
                refine (oackG_any b s fp f d zs at_ _ (by exact HO.out) (by omega) (by omega) (by omega) fin yz (by exact A1.out.2.2.2.1) A1.out.2.2.2.2.1 (by exact A1.out.1) A1.out.2.1 A1.out.2.2.1 A1.out.2.2.2.2.2.1 A1.out.2.2.2.2.2.2.1 A1.out.2.2.2.2.2.2.2.1).mono ?_
                rintro e w7 ⟨rfl, hm⟩
                have H7 := Lib.hid (show CovT w w7 b g n A k (E || fin) wt f d 0 from ⟨s.ackG zs yz at_ fin, by have := A1.out.2.2.2.2.2.2.2.2.2; have := HLT.out.1; omega, A1.out.2.2.2.2.2.2.2.2.1, Cv.om HNR.out.1 HNR.out.2.1 HNR.out.2.2.1 HNR.out.2.2.2.1 HNR.out.2.2.2.2 hm HSB.out⟩)
                clear hm A1 HO HNR HCM HLT HLZ HBW
                go_upto_region 20 with fail
                go_cut [9] (fun v wx => v = .bool (E || fin) ∧ wx = w7)
                case first =>
                  cases E
                  · go_wp2_with fail
                    go_meet
                    case rel => exact ⟨by simp, rfl⟩
                  · go_wp2_with fail
                    go_meet
                    case rel => exact ⟨by simp, rfl⟩
                case rest =>
                  obtain ⟨rfl, rfl⟩ := hcut
                  generalize wc = w7 at *
                  obtain ⟨E2, hE2⟩ : ∃ E2, (E || fin) = E2 := ⟨_, rfl⟩
                  rw [hE2] at H7
                  rw [hE2]
                  clear hE2
                  go_wp2_with fail
                  go_loopw [16, 144] (fun _ i wr => ∃ m : Nat, i = .int .i64 m ∧ m ≤ d ∧ CovT w wr b g n A k E2 wt f d m) (fun _ i _ => d - (intOf i).toNat)
                  case atStart => exact ⟨0, rfl, by omega, H7.out⟩
                  case round =>
                    obtain ⟨m, rfl, hmd, hst⟩ := hrel
                    have HT := Lib.hid hst
                    clear hst H7
                    by_cases hlt : m < d
                    · obtain ⟨s2, hl2, hci2, hcv2⟩ := HT.out
                      obtain ⟨x, hx⟩ : ∃ x, (setT wt f m)[f + m]? = some x := ⟨_, List.getElem?_eq_getElem (by rw [setT_len, HWL.out]; omega)⟩
                      obtain ⟨r0, r1⟩ := hcv2.cell hx
                      have HN2 := Lib.hid (show CovT w (wr.setCell ⟨g, f + m, none⟩ (.bool true)) b g n A k E2 wt f d (m + 1) from ⟨s2, hl2, hci2, hcv2.put _⟩)
                      clear hl2 hci2 hcv2 hx
                      have hwf : IntKind.i64.wrap (f : Int) = f := IntWalk.i64_in _ (by omega)
                      obtain ⟨jj, hjj, hjj2⟩ : ∃ jj : Nat, (f : Int) + (m : Int) = (jj : Int) ∧ f + m = jj := ⟨f + m, by omega, rfl⟩
                      have hjn : jj < n := by omega
                      rw [hjj2] at r0 r1 HN2
                      clear hjj2
                      go_wp2_with fail
                      go_roundw
                      case rel => exact ⟨m + 1, by go_num, by omega, HN2.out⟩
                      case measure => simp [intOf]; omega
                    · obtain rfl : m = d := by omega
                      obtain ⟨s2, hl2, hci2, hcv2⟩ := HT.out
                      have HR := Lib.hid (show k + 1 ≤ 501 ∧ CovR w wr b g n A (k + 1) E2 from ⟨by omega, CovR.of hl2 hci2 hcv2⟩)
                      clear hl2 hci2 hcv2
                      go_wp2_with fail
                      go_roundw
                      case rel => exact ⟨k + 1, E2, by go_num, rfl, HR.out.1, HR.out.2⟩
                      case measure => simp [intOf]; omega
              · have hk3 : k < 300 := by
                  have := HLZ.out
                  simp only [Bool.and_eq_true, decide_eq_true_eq] at this
                  omega
                obtain ⟨a1, a2, a3⟩ := hcm.lost
                rw [show f + d - f = d by omega] at a1 a2 a3
                obtain ⟨y0, hy0⟩ : ∃ y0, s.lostB (s.kn f (d : Nat)) = y0 := ⟨_, rfl⟩
                rw [hy0] at a1 a2 a3
                obtain ⟨ys, hys⟩ : ∃ ys, lostY s y0 s.xs.length = ys := ⟨_, rfl⟩
                rw [hys] at a3
                obtain ⟨el, hel⟩ : ∃ el, (s.el || (fin && s.es)) = el := ⟨_, rfl⟩
                rw [hel] at a3
                have A1 := Lib.hid (And.intro hy0 (And.intro a1 (And.intro a2 (And.intro hys (And.intro a3 hel)))))
                clear hy0 a1 a2 a3 hys hel hcm H6
                have HLF := Lib.hid (show k + 1 + lft { s with ys := ys, el := el } n ≤ 501 by
                  show k + 1 + lft s n ≤ 501
                  have := HLT.out.2
                  omega)
                go_wp2_with fail
                refine (olost_any b s fp f d fin y0 ys _ (by exact HO.out) (by omega) (by omega) (by omega) A1.out.1 A1.out.2.1 A1.out.2.2.1 A1.out.2.2.2.1).mono ?_
                rw [A1.out.2.2.2.2.2]
                rintro e w7 ⟨rfl, hm⟩
                have HR := Lib.hid (show CovR w w7 b g n A (k + 1) E from CovR.of HLF.out A1.out.2.2.2.2.1 (Cv.om HNR.out.1 HNR.out.2.1 HNR.out.2.2.1 HNR.out.2.2.2.1 HNR.out.2.2.2.2 hm HSB.out))
                clear hm A1 HO HNR HCM HLT HLZ HBW
                go_wp2_with fail
                go_roundw
                case rel => exact ⟨k + 1, E, by go_num, rfl, by omega, HR.out⟩
                case measure => simp [intOf]; omega
      · have HCM := Lib.hid hcm
        have HY := Lib.hid (And.intro hy (And.intro hsn hen))
        clear hy hsn hen hcm HCI
        go_wp2_with fail
        refine (onext_end b s fp kk 1000 _ (by exact HO.out) (by omega) HY.out.1 (by rw [HY.out.2.1, HLEN.out]) HY.out.2.2 (by omega) (by omega)).mono ?_
        rw [HLEN.out]
        rintro e w5 ⟨rfl, hm⟩
        have H5 := Lib.hid (show CovM w w5 b g n A k E n 0 true from ⟨wt, _, by exact HL.out.1, by exact HL.out.2, HCM.out, Cv.om HN.out.1 HN.out.2.1 HN.out.2.2.1 HN.out.2.2.2.1 HN.out.2.2.2.2.1 hm HN.out.2.2.2.2.2⟩)
        clear hm HCM HL HCV HO HN HLEN HY
        have hwn : IntKind.u64.wrap (n : Int) = n := IntWalk.u64_in _ (by omega)
        have hw0 : IntKind.u64.wrap 0 = 0 := by decide
        have hk0 : ¬ (kk : Int) < 0 := by omega
        have hx1 := fun m => (show Rds (w5.drewN m) (.slice none 0 0) [] from ⟨none, 0, rfl, by simp, by omega, .inl rfl⟩).str (P := Try.prog) (src := 28) (dst := 9) Try.underlying28 Try.underlying5 Try.underlying9
        have hx2 := fun m o => (show Rds (w5.drewN m) (.slice o 0 (capa - n)) [] from ⟨o, capa - n, rfl, by simp, by omega, .inl rfl⟩).str (P := Try.prog) (src := 28) (dst := 9) Try.underlying28 Try.underlying5 Try.underlying9
        have hx3 := fun m o => (show Rds (w5.drewN m) (.slice o 0 0) [] from ⟨o, 0, rfl, by simp, by omega, .inl rfl⟩).str (P := Try.prog) (src := 28) (dst := 9) Try.underlying28 Try.underlying5 Try.underlying9
        generalize strB [] = str at *
        go_upto_region 15 with fail
        go_cut [111] (fun v wx => v = .bool false ∧ CovM w wx b g n A k E n 0 true)
        case first =>
          as_aux_lemma =>
            by_cases hcn : capa = n
            · subst hcn
              go_wp2_with fail
              go_quiet (fail)
              go_wp2_with fail
              go_meet
              case rel => exact ⟨rfl, H5.out.drewN _⟩
            · cases oa with
              | none =>
                go_wp2_with fail
                go_quiet (fail)
                go_wp2_with fail
                go_meet
                case rel => exact ⟨rfl, H5.out.drewN _⟩
              | some a =>
                go_wp2_with fail
                go_quiet (fail)
                go_wp2_with fail
                go_meet
                case rel => exact ⟨rfl, H5.out.drewN _⟩
        case rest =>
          as_aux_lemma =>
            obtain ⟨rfl, hc6⟩ := hcut
            have hfd : n + 0 ≤ n := by omega
            clear hx1 hx2 hx3 hwn hw0 hk0 H5 str
            have H6 := Lib.hid (show CovM w wc b g n A k E n 0 true from hc6)
            clear hc6
            generalize wc = w6 at *
            have HBW := Lib.hid (show Below w.heap.size w w6 from by
              obtain ⟨_, _, _, _, _, _, _, _, h, _⟩ := H6.out
              exact h)
            obtain ⟨lz, hlz⟩ : ∃ lz, (decide (k < nc) && decide (k < 300) && lc.getD k false) = lz := ⟨_, rfl⟩
            have HLZ := Lib.hid hlz
            clear hlz
            go_upto_region 17 with fail
            go_cut [125] (fun v wx => v = .bool lz ∧ wx = w6)
            case first =>
              by_cases q1 : k < nc
              · by_cases q2 : k < 300
                · obtain ⟨x, hx⟩ : ∃ x, lc[k]? = some x := ⟨_, List.getElem?_eq_getElem (by rw [HNC.out]; exact q1)⟩
                  have hxl : x = lz := by
                    rw [← HLZ.out, List.getD_eq_getElem?_getD, hx]
                    simp [q1, q2]
                  subst hxl
                  obtain ⟨c, ofc, rfl, hc, q0⟩ := lvw HVC.out hx
                  have q0 := cell_keep HBW.out hc q0
                  clear hx
                  go_wp2_with fail
                  go_meet
                  case rel => exact ⟨rfl, rfl⟩
                · have hxl : lz = false := by rw [← HLZ.out]; simp [q2]
                  subst hxl
                  go_wp2_with fail
                  go_meet
                  case rel => exact ⟨rfl, rfl⟩
              · have hxl : lz = false := by rw [← HLZ.out]; simp [q1]
                subst hxl
                go_wp2_with fail
                go_meet
                case rel => exact ⟨rfl, rfl⟩
            case rest =>
              obtain ⟨rfl, rfl⟩ := hcut
              generalize wc = w6 at *
              obtain ⟨wt, s, hl1, hl2, hcm, fp, hO, hn, hbb, hrow, hg, hgf, hsB⟩ := H6.out
              have HSB := Lib.hid hsB
              have HCM := Lib.hid hcm
              have HO := Lib.hid hO
              have hnn := hcm.n200
              have HLT := Lib.hid (And.intro hl1 hl2)
              have HWL := Lib.hid hcm.wl
              have HNR := Lib.hid (And.intro hn (And.intro hbb (And.intro hrow (And.intro hg hgf))))
              clear hn hbb hrow hg hgf hO hl1 hl2 hsB
              cases lz
              · obtain ⟨zs, yz, at_, a1, a2, a3, a4, a5, a6, a7, a8, a9, a10⟩ := hcm.acked
                rw [show n + 0 - n = 0 by omega] at a1 a4 a9
                have A1 := Lib.hid (And.intro a1 (And.intro a2 (And.intro a3 (And.intro a4 (And.intro a5 (And.intro a6 (And.intro a7 (And.intro a8 (And.intro a9 a10)))))))))
                clear a1 a2 a3 a4 a5 a6 a7 a8 a9 a10 hcm H6
                go_wp2_with fail
                refine (oackG_any b s fp n 0 zs at_ _ (by exact HO.out) (by omega) (by omega) (by omega) true yz (by exact A1.out.2.2.2.1) A1.out.2.2.2.2.1 (by exact A1.out.1) A1.out.2.1 A1.out.2.2.1 A1.out.2.2.2.2.2.1 A1.out.2.2.2.2.2.2.1 A1.out.2.2.2.2.2.2.2.1).mono ?_
                rintro e w7 ⟨rfl, hm⟩
                have H7 := Lib.hid (show CovT w w7 b g n A k (E || true) wt n 0 0 from ⟨s.ackG zs yz at_ true, by have := A1.out.2.2.2.2.2.2.2.2.2; have := HLT.out.1; omega, A1.out.2.2.2.2.2.2.2.2.1, Cv.om HNR.out.1 HNR.out.2.1 HNR.out.2.2.1 HNR.out.2.2.2.1 HNR.out.2.2.2.2 hm HSB.out⟩)
                clear hm A1 HO HNR HCM HLT HLZ HBW
                go_upto_region 20 with fail
                go_cut [9] (fun v wx => v = .bool (E || true) ∧ wx = w7)
                case first =>
                  cases E
                  · go_wp2_with fail
                    go_meet
                    case rel => exact ⟨by simp, rfl⟩
                  · go_wp2_with fail
                    go_meet
                    case rel => exact ⟨by simp, rfl⟩
                case rest =>
                  obtain ⟨rfl, rfl⟩ := hcut
                  generalize wc = w7 at *
                  obtain ⟨E2, hE2⟩ : ∃ E2, (E || true) = E2 := ⟨_, rfl⟩
                  rw [hE2] at H7
                  rw [hE2]
                  clear hE2
                  go_wp2_with fail
                  go_loopw [16, 144] (fun _ i wr => ∃ m : Nat, i = .int .i64 m ∧ m ≤ 0 ∧ CovT w wr b g n A k E2 wt n 0 m) (fun _ i _ => 0 - (intOf i).toNat)
                  case atStart => exact ⟨0, rfl, by omega, H7.out⟩
                  case round =>
                    obtain ⟨m, rfl, hmd, hst⟩ := hrel
                    have HT := Lib.hid hst
                    clear hst H7
                    by_cases hlt : m < 0
                    · exact absurd hlt (by omega)
                    · obtain rfl : m = 0 := by omega
                      obtain ⟨s2, hl2, hci2, hcv2⟩ := HT.out
                      have HR := Lib.hid (show k + 1 ≤ 501 ∧ CovR w wr b g n A (k + 1) E2 from ⟨by omega, CovR.of hl2 hci2 hcv2⟩)
                      clear hl2 hci2 hcv2
                      go_wp2_with fail
                      go_roundw
                      case rel => exact ⟨k + 1, E2, by go_num, rfl, HR.out.1, HR.out.2⟩
                      case measure => simp [intOf]; omega
              · have hk3 : k < 300 := by
                  have := HLZ.out
                  simp only [Bool.and_eq_true, decide_eq_true_eq] at this
                  omega
                obtain ⟨a1, a2, a3⟩ := hcm.lost
                rw [show n + 0 - n = 0 by omega] at a1 a2 a3
                obtain ⟨y0, hy0⟩ : ∃ y0, s.lostB (s.kn n (0 : Nat)) = y0 := ⟨_, rfl⟩
                rw [hy0] at a1 a2 a3
                obtain ⟨ys, hys⟩ : ∃ ys, lostY s y0 s.xs.length = ys := ⟨_, rfl⟩
                rw [hys] at a3
                obtain ⟨el, hel⟩ : ∃ el, (s.el || (true && s.es)) = el := ⟨_, rfl⟩
                rw [hel] at a3
                have A1 := Lib.hid (And.intro hy0 (And.intro a1 (And.intro a2 (And.intro hys (And.intro a3 hel)))))
                clear hy0 a1 a2 a3 hys hel hcm H6
                have HLF := Lib.hid (show k + 1 + lft { s with ys := ys, el := el } n ≤ 501 by
                  show k + 1 + lft s n ≤ 501
                  have := HLT.out.2
                  omega)
                go_wp2_with fail
                refine (olost_any b s fp n 0 true y0 ys _ (by exact HO.out) (by omega) (by omega) (by omega) A1.out.1 A1.out.2.1 A1.out.2.2.1 A1.out.2.2.2.1).mono ?_
                rw [A1.out.2.2.2.2.2]
                rintro e w7 ⟨rfl, hm⟩
                have HR := Lib.hid (show CovR w w7 b g n A (k + 1) E from CovR.of HLF.out A1.out.2.2.2.2.1 (Cv.om HNR.out.1 HNR.out.2.1 HNR.out.2.2.1 HNR.out.2.2.2.1 HNR.out.2.2.2.2 hm HSB.out))
                clear hm A1 HO HNR HCM HLT HLZ HBW
                go_wp2_with fail
                go_roundw
                case rel => exact ⟨k + 1, E, by go_num, rfl, by omega, HR.out⟩
                case measure => simp [intOf]; omega
      · as_aux_lemma =>
          have HY := Lib.hid (And.intro hy (And.intro hsn hen))
          obtain ⟨d1, d2, d3, d4⟩ := HCI.out.done hy hsn hen
          have HD := Lib.hid (And.intro d2 (And.intro d3 d4))
          subst d1
          clear hy hsn hen d2 d3 d4
          obtain ⟨f, t0, hpt, hft, ht1⟩ : ∃ f t0, s.part 1000 = (f, t0) ∧ f ≤ t0 ∧ t0 = f := by
            refine ⟨s.sent, s.sent, ?_, Nat.le_refl _, rfl⟩
            unfold OS.part
            rw [HY.out.1]
            show (s.sent, max s.sent (min 1000 s.B.length)) = _
            rw [HY.out.2.1, HLEN.out]
            congr 1
            omega
          have hfn : f ≤ n := by
            have h9 : f = s.sent := by
              unfold OS.part at hpt
              rw [HY.out.1] at hpt
              exact (congrArg Prod.fst hpt).symm
            have := HY.out.2.1
            omega
          have hnn := HCI.out.n200
          have HPT := Lib.hid hpt
          have hwl := HCI.out.wl
          have HWL := Lib.hid hwl
          clear hpt hwl
          go_wp2_with fail
          refine (onext_none b s fp kk 1000 f t0 _ (by exact HO.out) (by omega) HPT.out hft (by omega) (by omega) (fun _ _ => HY.out.2.2) (by omega) (by omega)).mono ?_
          rintro e w5 ⟨rfl, hb5⟩
          have H5 := Lib.hid (HCV.out.later hb5)
          clear hb5 HO HN HCV HLEN HCI HL HPT HY ht1 hft hfn
          go_wp2_with fail
          go_loopw [17] (fun i wr => ∃ q : Nat, i = .int .i64 q ∧ q ≤ n ∧ wr = w5) (fun i _ => n - (intOf i).toNat)
          case atStart => exact ⟨0, rfl, by omega, rfl⟩
          case round =>
            obtain ⟨q, rfl, hq, hwr⟩ := hrel
            subst hwr
            generalize wr = w5 at *
            by_cases hlt : q < n
            · obtain ⟨r0, _⟩ := H5.out.cell (HD.out.1 q hlt)
              go_wp2_with fail
              go_roundw
              case rel => exact ⟨q + 1, by go_num, by omega, by first | rfl | trivial⟩
              case measure => simp [intOf]; omega
            · obtain ⟨fp5, hO, hn5, hb5, _⟩ := H5.out
              have HO := Lib.hid hO
              have HB5 := Lib.hid hb5
              clear hO hn5 hb5
              go_wp2_with fail
              refine (owhole_q b s fp5 _ (by exact HO.out)).mono ?_
              rw [HD.out.2.1]
              rintro e w6 ⟨rfl, x, rfl⟩
              have HO6 := Lib.hid (HO.out.drewN x)
              have HB6 := Lib.hid (below_drewN HB5.out x)
              clear HO HB5
              generalize w5.drewN x = w6 at *
              go_wp2_with fail
              refine (owaits_any b s fp5 1000 _ (by exact HO6.out) (by omega)).mono ?_
              rw [HD.out.2.2]
              rintro e w7 ⟨rfl, hb7⟩
              have HB7 := Lib.hid (below_call HB6.out HB6.out.size hb7)
              clear hb7 HO6 HB6
              go_wp2_with fail
              refine (known_any _).mono ?_
              rintro e w8 ⟨rfl, hb8⟩
              have HB8 := Lib.hid (below_call HB7.out HB7.out.size hb8)
              clear hb8
              go_wp2_with fail
              go_ret
              exact ⟨rfl, HB8.out⟩
end Go.Proofs.Ytkebjfaphmamjaa
