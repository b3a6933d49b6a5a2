/- DERIVED. Walk of narthexlaw16's SenderKeeps (printed by mkskeep.py). -/
import Derived.Test.YtncfbaabhceeoaaQK3
import Derived.Test.YtncfbaabhceeoaaQK5
import Derived.Test.YtncfbaabhceeoaaQK17
set_option linter.all false
namespace Go.Proofs.Ytncfbaabhceeoaa
open Go.RowKit

theorem Rds.drewN {w : World} {v : Value} {xs : List Nat} (h : Rds w v xs) (n : Nat) : Rds (w.drewN n) v xs := h
/-- Between two rounds. -/
def KR (W w : World) (r k : Nat) (v : Value) (lim : Nat) (rst ov : Bool) (X : Ext) : Prop := ∃ s, KA W w r s v s.os.B X ∧ KI s k ∧ s.lim = lim ∧ decide (s.st = 5) = rst ∧ s.os.fi = ov
theorem KR.bd {W w : World} {r k : Nat} {v : Value} {lim : Nat} {rst ov : Bool} {X : Ext} (h : KR W w r k v lim rst ov X) : Below W.heap.size W w ∧ lim < 500 := by
  obtain ⟨s, h1, h2, h3, _⟩ := h
  exact ⟨h1.below, by rw [← h3]; exact h2.lim⟩
theorem KR.later {W w w' : World} {r k : Nat} {v : Value} {lim : Nat} {rst ov : Bool} {X : Ext} (h : KR W w r k v lim rst ov X) (hb : Below w.heap.size w w') : KR W w' r k v lim rst ov X := by
  obtain ⟨s, h1, h2⟩ := h
  exact ⟨s, h1.later hb, h2⟩
theorem KR.add {W w w' : World} {r k z : Nat} {v : Value} {lim : Nat} {rst ov : Bool} {X : Ext} {o : Obj} (h : KR W w r k v lim rst ov X) (hb : Below w.heap.size w w') (hz : w.heap.size ≤ z) (ho : w'.heap[z]? = some o) : KR W w' r k v lim rst ov ((z, o) :: X) := by
  obtain ⟨s, h1, h2⟩ := h
  exact ⟨s, h1.add hb hz ho, h2⟩
theorem KR.drop {W w : World} {r k : Nat} {v : Value} {lim : Nat} {rst ov : Bool} {X : Ext} (h : KR W w r k v lim rst ov X) : KR W w r k v lim rst ov [] := by
  obtain ⟨s, h1, h2⟩ := h
  exact ⟨s, h1.drop, h2⟩
theorem KR.more {W w : World} {r k : Nat} {v : Value} {lim : Nat} {rst ov : Bool} {X : Ext} (h : KR W w r k v lim rst ov X) : KR W w r (k + 1) v lim rst ov X := by
  obtain ⟨s, h1, h2, h3⟩ := h
  exact ⟨s, h1, h2.more, h3⟩
theorem KA.at1 {W w : World} {r : Nat} {s : SS} {v : Value} {L : List Nat} {X : Ext} {z : Nat} {o : Obj} (h : KA W w r s v L ((z, o) :: X)) : w.heap[z]? = some o := h.at (x := (z, o)) (List.mem_cons_self ..)
theorem KA.at2 {W w : World} {r : Nat} {s : SS} {v : Value} {L : List Nat} {X : Ext} {z : Nat} {o : Obj} {y : Nat × Obj} (h : KA W w r s v L (y :: (z, o) :: X)) : w.heap[z]? = some o := h.at (x := (z, o)) (List.mem_cons_of_mem _ (List.mem_cons_self ..))
theorem partV_at {g cap l h : Nat} (hc : ¬ cap = l) : partV (some ⟨g, 0, none⟩) 1 cap l h = .slice (some ⟨g, l, none⟩) (h - l) (cap - l) := by
  unfold partV
  rw [if_neg hc, Option.map_some]
  unfold Addr.add
  by_cases h0 : l = 0
  · subst h0
    rfl
  · rw [if_neg (by omega), Nat.mul_one, Nat.zero_add]
theorem take_all {xs : List Nat} {n : Nat} (h : xs.length ≤ n) : xs.take n = xs := List.take_of_length_le h
set_option maxRecDepth 100000 in
set_option maxHeartbeats 8000000 in
theorem keeps_walk (vl : Value) (L : List AkS) (w : World) (hl : Vw encK w w.heap.size vl L) (hL : ∀ a ∈ L, AkSOk w w.heap.size a) :
    Calls Try.prog 4 #[vl] w fun e w' => e = .returned (.bool true) ∧ Below w.heap.size w w' := by
  obtain ⟨i0, hi0, hz0, hz1, hz2'⟩ := info_parts infoB
  obtain ⟨ol, capl, rfl, hcl1, hcl2⟩ := hl.shape
  have HVL := Lib.hid hl
  have HLO := Lib.hid hL
  clear hl hL
  generalize hn : L.length = len at *
  have HN := Lib.hid hn
  clear hn
  go_enter Try.func4, Try.ntmps4
  go_wp2_with fail
  refine (sdnew_any 8 _ (by omega)).mono ?_
  rintro e w1 ⟨r, rfl, hm⟩
  have H0 := Lib.hid (show KR w w1 r 0 (.slice none 0 0) 0 false false [] from by
    obtain ⟨fp, h1, h2, h3⟩ := hm
    exact ⟨SS.new 8, ⟨fp, none, h1, h2, h3, SlG.nil _, fun g q => (by cases q), fun x q => absurd q (by simp)⟩, KI.new, rfl, rfl, rfl⟩)
  clear hm
  go_wp2_with fail
  go_loopw [4, 5, 6, 7, 8] (fun v vl vr vo i wr => ∃ (k lim : Nat) (rst ov : Bool), i = .int .i64 k ∧ k ≤ 60 ∧ vl = .int .u64 lim ∧ vr = .bool rst ∧ vo = .bool ov ∧ KR w wr r k v lim rst ov []) (fun _ _ _ _ i _ => 60 - (intOf i).toNat)
  case atStart => exact ⟨0, 0, false, false, rfl, by omega, rfl, rfl, rfl, H0.out⟩
  case round =>
    obtain ⟨k, lim, rst, ov, rfl, hk, rfl, rfl, rfl, hst⟩ := hrel
    have H := Lib.hid hst
    have hlim5 := hst.bd.2
    clear hst H0
    by_cases hlt : k < len
    · by_cases hlt2 : k < 60
      · obtain ⟨a, hak⟩ : ∃ a, L[k]? = some a := ⟨_, List.getElem?_eq_getElem (by rw [HN.out]; exact hlt)⟩
        obtain ⟨b, ofb, rfl, hbb, hcs⟩ := AkS.cells HVL.out hak
        have hok := HLO.out a (List.mem_of_getElem? hak)
        have HCS := Lib.hid (fun jj v hj => cell_keep H.out.bd.1 hbb (hcs jj v hj))
        clear hak hcs
        obtain ⟨kd, room, ai, an, vd, fk, fa, fb, fc, fd, ff, fr, fn⟩ := a
        obtain ⟨hkd1, hkd2⟩ := hok.kd
        obtain ⟨hrm1, hrm2⟩ := hok.room
        obtain ⟨hai1, hai2⟩ := hok.i
        have han := hok.n
        obtain ⟨dl, hdv, hdb⟩ := hok.vd
        obtain ⟨fdl, hfdv, _⟩ := hok.fd
        obtain ⟨frl, hfrv, _⟩ := hok.fr
        simp only at hkd1 hkd2 hrm1 hrm2 hai1 hai2 han hdv hfdv hfrv
        obtain ⟨ofd, cfd, hq1, _, _⟩ := hfdv.shape
        obtain ⟨ofr, cfr, hq2, _, _⟩ := hfrv.shape
        generalize fdl.length = nfd at hq1
        generalize frl.length = nfr at hq2
        subst hq1
        subst hq2
        clear hok hfdv hfrv
        obtain ⟨od, nd, cd, rfl, hnd, hcd, hcd2, hfront⟩ := kcut_v hdv 60 (by omega)
        obtain ⟨dn, hdn, hdn2, hdn3⟩ : ∃ dn, min nd 60 = dn ∧ dn ≤ 60 ∧ dn ≤ cd := ⟨_, rfl, by omega, by omega⟩
        obtain ⟨D, hD⟩ : ∃ D, dl.take 60 = D := ⟨_, rfl⟩
        have hDl : D.length = dn := by rw [← hD, List.length_take]; omega
        have hDb : Bys D := fun x hx => hdb x (by rw [← hD] at hx; exact List.mem_of_mem_take hx)
        rw [hdn, hD] at hfront
        have HDF := Lib.hid hfront
        have HDN := Lib.hid hdn
        have HDL := Lib.hid hDl
        have HBY := Lib.hid hDb
        clear hdv hdb hfront hdn hD hDl hDb hnd
        simp only [encK] at HCS
        go_upto_region 10 with fail
        go_cut [9] (fun v wx => ∃ z, v = .pointer (some ⟨z, 0, none⟩) ∧ wr.heap.size ≤ z ∧ Below wr.heap.size wr wx ∧ wx.heap[z]? = some (.cells ([.int .i64 kd, .int .i64 room, .int .i64 ai, .int .u64 an, .slice od nd cd, .int .i64 fk, .int .u64 fa, .int .u64 fb, .int .u64 fc, .slice ofd nfd cfd, .bool ff, .slice ofr nfr cfr, .int .i64 fn] : List Value).toArray 50 (0, 0)))
        case first =>
          go_wp2_with (first
            | refine wpList_load_at rfl 50 (.tmp 31) rfl b (ofb + k * 13) rfl [.int .i64 kd, .int .i64 room, .int .i64 ai, .int .u64 an, .slice od nd cd, .int .i64 fk, .int .u64 fa, .int .u64 fb, .int .u64 fc, .slice ofd nfd cfd, .bool ff, .slice ofr nfr cfr, .int .i64 fn] _ (by exact HCS.out) Try.underlying50 rfl (by rw [sizeK]; rfl) ?_
            | refine wpList_store_row rfl 50 (.tmp 9) (.tmp 32) rfl _ _ rfl rfl 50 #[.int .i64 0, .int .i64 0, .int .i64 0, .int .u64 0, .slice none 0 0, .int .i64 0, .int .u64 0, .int .u64 0, .int .u64 0, .slice none 0 0, .bool false, .slice none 0 0, .int .i64 0] (by exact alloc_at wr _) (by rw [sizeK]; rfl) rfl (by simp [Value.oneCell']) ?_)
          go_meet
          case rel => exact ⟨_, rfl, Nat.le_refl _, setRow_below ((Below.refl _ _).alloc (Nat.le_refl _) _) (Nat.le_refl _), setRow_heap _ _ #[.int .i64 0, .int .i64 0, .int .i64 0, .int .u64 0, .slice none 0 0, .int .i64 0, .int .u64 0, .int .u64 0, .int .u64 0, .slice none 0 0, .bool false, .slice none 0 0, .int .i64 0] _ _ _ (by exact alloc_at wr _)⟩
        case rest =>
         as_aux_lemma =>
          obtain ⟨z, rfl, hz, hb3, hkz⟩ := hcut
          have H3 := Lib.hid (H.out.add hb3 hz hkz)
          have HKZ := Lib.hid hkz
          have hlz := heap_lt hkz
          clear hz hb3 hkz HCS H
          generalize wc = w3 at *
          have z0 : w3.cell? ⟨z, 0, none⟩ = some (.int .i64 kd) := (cell_at HKZ.out 0).trans rfl
          have z1 : w3.cell? ⟨z, 1, none⟩ = some (.int .i64 room) := (cell_at HKZ.out 1).trans rfl
          have z3 : w3.cell? ⟨z, 3, none⟩ = some (.int .u64 an) := (cell_at HKZ.out 3).trans rfl
          have z4 : w3.cell? ⟨z, 4, none⟩ = some (.slice od nd cd) := (cell_at HKZ.out 4).trans rfl
          by_cases k0 : kd = 0
          · subst k0
            as_aux_lemma =>
              obtain ⟨s, hK, hI, hs1, hs2, hs3⟩ := H3.out
              have HK := Lib.hid hK
              have HI := Lib.hid hI
              have HS := Lib.hid (And.intro hs1 (And.intro hs2 hs3))
              clear hK hI hs1 hs2 hs3
              go_wp2_with fail
              refine (kcut_q od nd cd 60 _ hcd hcd2 (by omega)).mono ?_
              rw [HDN.out]
              rintro e w' ⟨rfl, hw⟩
              obtain rfl := hw
              go_wp2_with fail
              refine (keep_write w _ r k s _ _ D (by exact HK.out) HI.out hlt2 (by exact HDF.out.below H3.out.bd.1) H3.out.bd.1.size (by rw [HDL.out]; exact hdn2) HBY.out).mono ?_
              rw [HDL.out]
              rintro e w4 ⟨n, err, rfl, hn, s', hK, hI, h1, h2, h3, h4, h5⟩
              have HK4 := Lib.hid hK
              have HI4 := Lib.hid hI
              have H4 := Lib.hid (And.intro h1 (And.intro h2 (And.intro h3 (And.intro h4 h5))))
              clear hK hI h1 h2 h3 h4 h5
              by_cases herr : err = 0
              · subst herr
                obtain ⟨fp, og, gA⟩ := HK4.out
                have G4 := Lib.hid gA.2.2.2.1
                have hBl := HI.out.gi.l4
                have G := Lib.hid gA
                have HVF := Lib.hid ((HDF.out.below gA.2.2.1).front encB_len n hn)
                have hdt : (D.take n).length = n := by rw [List.length_take, HDL.out]; omega
                have HDT := Lib.hid hdt
                clear gA hdt
                go_wp2_with (refine wpList_pushV encB_len encB_one Try.underlying36 hi0 hz1 hz0 zeroB rfl (.tmp 153) (.tmp 156) rfl (by exact G4.out) (by exact HVF.out) rfl rfl (by rw [HDT.out, hz2']; omega) (by rw [HDT.out]; omega) ?_)
                intro W5 v5 og5 hs5 ho5 hu5
                have H5 := Lib.hid (show KR w W5 r (k + 1) v5 lim rst ov _ from by
                  rw [← H4.out.2.2.2.1] at hs5
                  exact ⟨s', KA.push G.out hs5 ho5 hu5, HI4.out, by rw [H4.out.1]; exact HS.out.1, by rw [H4.out.2.1]; exact HS.out.2.1, by rw [H4.out.2.2.1]; exact HS.out.2.2⟩)
                clear hs5 ho5 hu5
                go_wp2_with fail
                go_roundw
                case rel => exact ⟨k + 1, lim, rst, ov, by go_num, by omega, rfl, rfl, rfl, H5.out.drop⟩
                case measure => simp [intOf]; omega
              · have heri : ((err : Int) == 0) = false := by simp; omega
                have H5 := Lib.hid (show KR w w4 r (k + 1) u4 lim rst ov _ from by
                  have h0 := H4.out.2.2.2.2 herr
                  have hB := H4.out.2.2.2.1
                  rw [h0, List.take_zero, List.append_nil] at hB
                  exact ⟨s', by rw [hB]; exact HK4.out, HI4.out, by rw [H4.out.1]; exact HS.out.1, by rw [H4.out.2.1]; exact HS.out.2.1, by rw [H4.out.2.2.1]; exact HS.out.2.2⟩)
                go_wp2_with fail
                go_roundw
                case rel => exact ⟨k + 1, lim, rst, ov, by go_num, by omega, rfl, rfl, rfl, H5.out.drop⟩
                case measure => simp [intOf]; omega
          · have k0b : (kd == 0) = false := by simp; omega
            by_cases k1 : kd = 1
            · subst k1
              as_aux_lemma =>
                obtain ⟨s, hK, hI, hs1, hs2, hs3⟩ := H3.out
                have HK := Lib.hid hK
                have HI := Lib.hid hI
                have HS := Lib.hid (And.intro hs1 (And.intro hs2 hs3))
                clear hK hI hs1 hs2 hs3
                go_wp2_with fail
                refine (kcut_q od nd cd 60 _ hcd hcd2 (by omega)).mono ?_
                rw [HDN.out]
                rintro e w' ⟨rfl, hw⟩
                obtain rfl := hw
                go_wp2_with fail
                refine (keep_write w _ r k s _ _ D (by exact HK.out) HI.out hlt2 (by exact HDF.out.below H3.out.bd.1) H3.out.bd.1.size (by rw [HDL.out]; exact hdn2) HBY.out).mono ?_
                rw [HDL.out]
                rintro e w4 ⟨n, err, rfl, hn, s', hK, hI, h1, h2, h3, h4, h5⟩
                have HK4 := Lib.hid hK
                have HI4 := Lib.hid hI
                have H4 := Lib.hid (And.intro h1 (And.intro h2 (And.intro h3 (And.intro h4 h5))))
                clear hK hI h1 h2 h3 h4 h5
                by_cases herr : err = 0
                · subst herr
                  obtain ⟨fp, og, gA⟩ := HK4.out
                  have G4 := Lib.hid gA.2.2.2.1
                  have hBl := HI.out.gi.l4
                  have G := Lib.hid gA
                  have HVF := Lib.hid ((HDF.out.below gA.2.2.1).front encB_len n hn)
                  have hdt : (D.take n).length = n := by rw [List.length_take, HDL.out]; omega
                  have HDT := Lib.hid hdt
                  clear gA hdt
                  go_wp2_with (refine wpList_pushV encB_len encB_one Try.underlying36 hi0 hz1 hz0 zeroB rfl (.tmp 153) (.tmp 156) rfl (by exact G4.out) (by exact HVF.out) rfl rfl (by rw [HDT.out, hz2']; omega) (by rw [HDT.out]; omega) ?_)
                  intro W5 v5 og5 hs5 ho5 hu5
                  have H5 := Lib.hid (show KR w W5 r (k + 1) v5 lim rst ov _ from by
                    rw [← H4.out.2.2.2.1] at hs5
                    exact ⟨s', KA.push G.out hs5 ho5 hu5, HI4.out, by rw [H4.out.1]; exact HS.out.1, by rw [H4.out.2.1]; exact HS.out.2.1, by rw [H4.out.2.2.1]; exact HS.out.2.2⟩)
                  clear hs5 ho5 hu5
                  go_wp2_with fail
                  go_roundw
                  case rel => exact ⟨k + 1, lim, rst, ov, by go_num, by omega, rfl, rfl, rfl, H5.out.drop⟩
                  case measure => simp [intOf]; omega
                · have heri : ((err : Int) == 0) = false := by simp; omega
                  have H5 := Lib.hid (show KR w w4 r (k + 1) u4 lim rst ov _ from by
                    have h0 := H4.out.2.2.2.2 herr
                    have hB := H4.out.2.2.2.1
                    rw [h0, List.take_zero, List.append_nil] at hB
                    exact ⟨s', by rw [hB]; exact HK4.out, HI4.out, by rw [H4.out.1]; exact HS.out.1, by rw [H4.out.2.1]; exact HS.out.2.1, by rw [H4.out.2.2.1]; exact HS.out.2.2⟩)
                  go_wp2_with fail
                  go_roundw
                  case rel => exact ⟨k + 1, lim, rst, ov, by go_num, by omega, rfl, rfl, rfl, H5.out.drop⟩
                  case measure => simp [intOf]; omega
            · have k1b : (kd == 1) = false := by simp; omega
              by_cases k2 : kd = 2
              · subst k2
                as_aux_lemma =>
                  obtain ⟨s, hK, hI, hs1, hs2, hs3⟩ := H3.out
                  have HK := Lib.hid hK
                  have HI := Lib.hid hI
                  have HS := Lib.hid (And.intro hs1 (And.intro hs2 hs3))
                  clear hK hI hs1 hs2 hs3
                  go_wp2_with fail
                  refine (keep_finish w _ r k s _ _ (by exact HK.out) HI.out).mono ?_
                  rintro e w4 ⟨err, rfl, s', hK, hI, h1, h2, h3, h4⟩
                  by_cases herr : err = 0
                  · subst herr
                    have H5 := Lib.hid (show KR w w4 r (k + 1) u4 lim rst true _ from ⟨s', by rw [h3]; exact hK, hI, by rw [h1]; exact HS.out.1, by rw [h2]; exact HS.out.2.1, h4⟩)
                    clear hK hI h1 h2 h3 h4
                    go_wp2_with fail
                    go_roundw
                    case rel => exact ⟨k + 1, lim, rst, true, by go_num, by omega, rfl, rfl, rfl, H5.out.drop⟩
                    case measure => simp [intOf]; omega
                  · have heri : ((err : Int) == 0) = false := by simp; omega
                    have H5 := Lib.hid (show KR w w4 r (k + 1) u4 lim rst ov _ from ⟨s', by rw [h3]; exact hK, hI, by rw [h1]; exact HS.out.1, by rw [h2]; exact HS.out.2.1, by rw [h4, HS.out.2.2, decide_eq_false herr]; rfl⟩)
                    clear hK hI h1 h2 h3 h4
                    go_wp2_with fail
                    go_roundw
                    case rel => exact ⟨k + 1, lim, rst, ov, by go_num, by omega, rfl, rfl, rfl, H5.out.drop⟩
                    case measure => simp [intOf]; omega
              · have k2b : (kd == 2) = false := by simp; omega
                by_cases k3 : kd = 3
                · subst k3
                  as_aux_lemma =>
                    obtain ⟨s, hK, hI, hs1, hs2, hs3⟩ := H3.out
                    have HK := Lib.hid hK
                    have HI := Lib.hid hI
                    have HS := Lib.hid (And.intro hs1 (And.intro hs2 hs3))
                    clear hK hI hs1 hs2 hs3
                    obtain ⟨c, hc, hc2⟩ : ∃ c : Nat, (an : Int).tmod 100 = (c : Int) ∧ c < 100 := ⟨an % 100, by rw [Int.tmod_eq_emod_of_nonneg (by omega)]; omega, Nat.mod_lt _ (by omega)⟩
                    go_wp2_with fail
                    refine (keep_reset w _ r k c s _ _ (by exact HK.out) HI.out hc2).mono ?_
                    rintro e w4 ⟨err, rfl, s', hK, hI, h1, h2, h3, h4⟩
                    by_cases herr : err = 0
                    · subst herr
                      have H5 := Lib.hid (show KR w w4 r (k + 1) u4 lim true ov _ from ⟨s', by rw [h3]; exact hK, hI, by rw [h1]; exact HS.out.1, h4, by rw [h2]; exact HS.out.2.2⟩)
                      clear hK hI h1 h2 h3 h4
                      go_wp2_with fail
                      go_roundw
                      case rel => exact ⟨k + 1, lim, true, ov, by go_num, by omega, rfl, rfl, rfl, H5.out.drop⟩
                      case measure => simp [intOf]; omega
                    · have heri : ((err : Int) == 0) = false := by simp; omega
                      have H5 := Lib.hid (show KR w w4 r (k + 1) u4 lim rst ov _ from ⟨s', by rw [h3]; exact hK, hI, by rw [h1]; exact HS.out.1, by rw [h4, HS.out.2.1, decide_eq_false herr]; rfl, by rw [h2]; exact HS.out.2.2⟩)
                      clear hK hI h1 h2 h3 h4
                      go_wp2_with fail
                      go_roundw
                      case rel => exact ⟨k + 1, lim, rst, ov, by go_num, by omega, rfl, rfl, rfl, H5.out.drop⟩
                      case measure => simp [intOf]; omega
                · have k3b : (kd == 3) = false := by simp; omega
                  by_cases k4 : kd = 4
                  · subst k4
                    as_aux_lemma =>
                      obtain ⟨s, hK, hI, hs1, hs2, hs3⟩ := H3.out
                      have HK := Lib.hid hK
                      have HI := Lib.hid hI
                      have HS := Lib.hid (And.intro hs1 (And.intro hs2 hs3))
                      clear hK hI hs1 hs2 hs3
                      obtain ⟨c, hc, hc2⟩ : ∃ c : Nat, (an : Int).tmod 500 = (c : Int) ∧ c < 500 := ⟨an % 500, by rw [Int.tmod_eq_emod_of_nonneg (by omega)]; omega, Nat.mod_lt _ (by omega)⟩
                      go_wp2_with fail
                      refine (keep_limit w _ r k c s _ _ (by exact HK.out) HI.out hc2).mono ?_
                      rintro e w4 ⟨rfl, s', hK, hI, h1, h2, h3, h4⟩
                      obtain ⟨lim2, hlim2, hlim3⟩ : ∃ lim2 : Nat, (if lim < c then (c : Int) else (lim : Int)) = (lim2 : Int) ∧ max lim c = lim2 := ⟨max lim c, by split <;> omega, rfl⟩
                      have hkz4 := hK.at1
                      have y3 : w4.cell? ⟨z, 3, none⟩ = some (.int .u64 an) := (cell_at hkz4 3).trans rfl
                      have H5 := Lib.hid (show KR w w4 r (k + 1) u4 lim2 rst ov _ from ⟨s', by rw [h3]; exact hK, hI, by rw [h1, HS.out.1]; exact hlim3, by rw [h4]; exact HS.out.2.1, by rw [h2]; exact HS.out.2.2⟩)
                      clear hK hI h1 h2 h3 h4 hlim3 hkz4
                      go_wp2_with fail
                      go_roundw
                      case rel => exact ⟨k + 1, lim2, rst, ov, by go_num, by omega, rfl, rfl, rfl, H5.out.drop⟩
                      case measure => simp [intOf]; omega
                  · have k4b : (kd == 4) = false := by simp; omega
                    as_aux_lemma =>
                      obtain ⟨s, hK, hI, hs1, hs2, hs3⟩ := H3.out
                      have HK := Lib.hid hK
                      have HI := Lib.hid hI
                      have HS := Lib.hid (And.intro hs1 (And.intro hs2 hs3))
                      clear hK hI hs1 hs2 hs3
                      go_wp2_with fail
                      refine (keep_told w _ r k s room an _ (by exact HK.out) HI.out hlt2 han hrm1 hrm2).mono ?_
                      rintro e w4 ⟨f, ok, rfl, ⟨⟨x1, x2, x3, hx⟩, ⟨y1, y2, y3, hy⟩⟩, ⟨rfl, hK⟩ | ⟨rfl, off, ln, hX⟩⟩
                      · have H5 := Lib.hid (show KR w ((w4.alloc (.cells zcells 39)).setRow w4.heap.size (encF f).toArray) r (k + 1) u4 lim rst ov _ from ⟨s, hK.later (setRow_below ((Below.refl w4.heap.size w4).alloc (Nat.le_refl _) (.cells zcells 39)) (Nat.le_refl w4.heap.size)), HI.out.more, HS.out⟩)
                        clear hK
                        go_wp2_with (refine wpList_store_row rfl 39 (.tmp 13) (.tmp 42) rfl _ _ rfl rfl 39 zcells (by exact alloc_at w4 _) (by rw [sizeF]; rfl) rfl (by simp [Value.oneCell', encF, hx, hy]) ?_)
                        go_roundw
                        case rel => exact ⟨k + 1, lim, rst, ov, by go_num, by omega, rfl, rfl, rfl, H5.out.drop⟩
                        case measure => simp [intOf]; omega
                      · have HX := Lib.hid hX
                        have HKK := Lib.hid hX.ka
                        obtain ⟨hbd1, hbd2⟩ := hX.tok.bd
                        have hsid := hX.tok.sid
                        have hfo := hX.tok.fo
                        obtain ⟨od2, cd2, hvd⟩ := hX.tok.vd
                        have hk4 := hX.tok.kd
                        rw [HS.out.2.1] at hk4
                        have hk4b : (f.kd == 4) = rst := by rw [← hk4]; rfl
                        rw [hvd] at hx
                        obtain ⟨rfl, rfl, rfl⟩ : od2 = x1 ∧ ln = x2 ∧ cd2 = x3 := by cases hx; exact ⟨rfl, rfl, rfl⟩
                        clear hX hx z0 z1 z3 z4 HBY HDL HDN HDF hcd hcd2 hdn2 hdn3 han hrm1 hrm2 hkd1 hkd2 HK k0b k1b k2b k3b k4b k0 k1 k2 k3 k4 hlz HN
                        have hwl : IntKind.u64.wrap (ln : Int) = ln := IntWalk.u64_in _ (by omega)
                        obtain ⟨t, ht, ht2⟩ : ∃ t : Nat, (off : Int) + (ln : Int) = (t : Int) ∧ off + ln = t := ⟨off + ln, by omega, rfl⟩
                        have hwt : IntKind.u64.wrap (t : Int) = t := IntWalk.u64_in _ (by omega)
                        go_upto_region 14 with (refine wpList_store_row rfl 39 (.tmp 13) (.tmp 42) rfl _ _ rfl rfl 39 zcells (by exact alloc_at w4 _) (by rw [sizeF]; rfl) rfl (by simp [Value.oneCell', encF, hvd, hy]) ?_)
                        go_cut [13, 15] (fun v13 v15 wx => ∃ y, v13 = .pointer (some ⟨y, 0, none⟩) ∧ v15 = .int .u64 t ∧ NX w wx r k s room f off ln u4 [(y, .cells (encF f).toArray 39 (0, 0)), (z, .cells ([.int .i64 kd, .int .i64 room, .int .i64 ai, .int .u64 an, .slice od nd cd, .int .i64 fk, .int .u64 fa, .int .u64 fb, .int .u64 fc, .slice ofd nfd cfd, .bool ff, .slice ofr nfr cfr, .int .i64 fn] : List Value).toArray 50 (0, 0))])
                        case first =>
                          have hrow := setRow_heap (w4.alloc (.cells zcells 39)) w4.heap.size zcells (encF f).toArray 39 (0, 0) (alloc_at _ _)
                          have HX5 := Lib.hid (HX.out.add (setRow_below ((Below.refl w4.heap.size w4).alloc (Nat.le_refl _) (.cells zcells 39)) (Nat.le_refl w4.heap.size)) (Nat.le_refl _) hrow)
                          have y2 := (cell_at hrow 2).trans (by rfl : _ = some (.int .u64 f.off))
                          have y3 := (cell_at hrow 3).trans (by rfl : _ = some f.vd)
                          rw [hfo] at y2
                          rw [hvd] at y3
                          unfold zcells at y2 y3
                          clear hrow
                          go_wp2_with fail
                          go_meet
                          case rel => exact ⟨_, rfl, rfl, HX5.out⟩
                        case rest =>
                         as_aux_lemma =>
                          obtain ⟨y, rfl, rfl, hX⟩ := hcut
                          have HX := Lib.hid hX
                          have hkk := hX.ka
                          clear hX HKK
                          generalize wc = w6 at *
                          obtain ⟨s6, hK6⟩ := hkk
                          have hyr := hK6.at1
                          have hzr := hK6.at2
                          have HR := Lib.hid (And.intro hyr hzr)
                          have HSof := Lib.hid (fun (W : World) (hB : Below w6.heap.size w6 W) => show W.cell? ⟨y, 1, none⟩ = some (.int .u64 8) ∧ W.cell? ⟨y, 0, none⟩ = some (.int .i64 f.kd) ∧ W.cell? ⟨z, 1, none⟩ = some (.int .i64 room) ∧ W.heap[y]? = some (.cells (encF f).toArray 39 (0, 0)) from by
                            have h1 := below_keeps hB hyr (heap_lt hyr)
                            have h2 := below_keeps hB hzr (heap_lt hzr)
                            have e := (cell_at h1 1).trans (by rfl : _ = some (Value.int .u64 f.sid))
                            rw [hsid] at e
                            exact ⟨e, (cell_at h1 0).trans rfl, (cell_at h2 1).trans rfl, h1⟩)
                          clear hK6 hyr hzr
                          go_upto_region 15 with fail
                          go_cut [70] (fun v wx => v = .bool false ∧ Below w6.heap.size w6 wx)
                          case first =>
                            as_aux_lemma =>
                              refine wp_region_till (S := fun w' => w'.cell? ⟨y, 1, none⟩ = some (.int .u64 8) ∧ w'.cell? ⟨y, 0, none⟩ = some (.int .i64 f.kd) ∧ w'.cell? ⟨z, 1, none⟩ = some (.int .i64 room) ∧ w'.heap[y]? = some (.cells (encF f).toArray 39 (0, 0))) [] (by kernel_rfl) (by exact HSof.out _ ((Below.refl _ _).drew)) (fun hHeld => ?_)
                              refine wpTill_take0 (i := 0) (oi := ⟨some 53, _, _, _, _, _⟩) (v := ?_) rfl (by kernel_rfl) (fun _ _ _ h => h) (Or.inl ⟨by rfl, ?_⟩) (fun _ => hHeld) ?_
                              rotate_left
                              · intro w hSw
                                (try dsimp only at hSw)
                                go_simp
                                try with_reducible rfl
                              try simp only [Act.put, List.setIfInBounds_toArray, List.set_cons_zero, List.set_cons_succ]
                              refine wpTill_take (i := 1) (oi := ⟨some 54, _, _, _, _, _⟩) (v := ?_) rfl (by kernel_rfl) (fun _ _ _ h => h) (Or.inl ⟨by rfl, ?_⟩) (by exact hHeld) ?_
                              rotate_left
                              · intro w hSw
                                (try dsimp only at hSw)
                                go_simp
                                try with_reducible rfl
                              try simp only [Act.put, List.setIfInBounds_toArray, List.set_cons_zero, List.set_cons_succ]
                              refine wpTill_take0 (i := 2) (oi := ⟨some 55, _, _, _, _, _⟩) (v := ?_) rfl (by kernel_rfl) (fun _ _ _ h => h) (Or.inl ⟨by rfl, ?_⟩) (fun _ => hHeld) ?_
                              rotate_left
                              · intro w hSw
                                (try dsimp only at hSw)
                                go_simp
                                try with_reducible rfl
                              try simp only [Act.put, List.setIfInBounds_toArray, List.set_cons_zero, List.set_cons_succ]
                              refine wpTill_take0 (i := 3) (oi := ⟨some 56, _, _, _, _, _⟩) (v := ?_) rfl (by kernel_rfl) (fun _ _ _ h => h) (Or.inl ⟨by rfl, ?_⟩) (fun _ => hHeld) ?_
                              rotate_left
                              · intro w hSw
                                (try dsimp only at hSw)
                                go_simp
                                try with_reducible rfl
                              try simp only [Act.put, List.setIfInBounds_toArray, List.set_cons_zero, List.set_cons_succ]
                              refine wpTill_take0 (i := 7) (oi := ⟨some 60, _, _, _, _, _⟩) (v := ?_) rfl (by kernel_rfl) (fun _ _ _ h => h) (Or.inl ⟨by rfl, ?_⟩) (fun _ => hHeld) ?_
                              rotate_left
                              · intro w hSw
                                (try dsimp only at hSw)
                                go_simp
                                try with_reducible rfl
                              try simp only [Act.put, List.setIfInBounds_toArray, List.set_cons_zero, List.set_cons_succ]
                              refine wpTill_take (i := 8) (oi := ⟨some 61, _, _, _, _, _⟩) (v := ?_) rfl (by kernel_rfl) (fun _ _ _ h => h) (Or.inl ⟨by rfl, ?_⟩) (by exact hHeld) ?_
                              rotate_left
                              · intro w hSw
                                (try dsimp only at hSw)
                                go_simp
                                try with_reducible rfl
                              try simp only [Act.put, List.setIfInBounds_toArray, List.set_cons_zero, List.set_cons_succ]
                              refine wpTill_ready (rs := [4]) (by kernel_rfl) (by simp) ?_
                              refine AllTill.cons (o := ⟨some 57, _, _, _, _, _⟩) rfl (fun K hK => ?_) AllTill.nil
                              rw [if_pos (by kernel_rfl)]
                              refine wp_load_row 39 (.tmp 13) rfl y rfl 39 (encF f).toArray (0, 0) _ (by exact hHeld.2.2.2) Try.underlying39 rfl (by rw [sizeF]; rfl) ?_
                              refine hK.out _ _ (by exact hHeld) (fun hHeld => ?_)
                              clear hK K
                              try simp only [Act.put, List.setIfInBounds_toArray, List.set_cons_zero, List.set_cons_succ]
                              refine wpTill_ready (rs := [5]) (by kernel_rfl) (by simp) ?_
                              refine AllTill.cons (o := ⟨some 58, _, _, _, _, _⟩) rfl (fun K hK => ?_) AllTill.nil
                              go_simp
                              go_at_call 21
                              refine (HX.out.tok.one _ (by first | exact (Below.refl _ _).drew | exact below_drewN (Below.refl _ _) _)).mono ?_
                              rintro e w7 ⟨v7, kk, rfl, ⟨L7, hv7, hl7, hb7⟩, hkk⟩
                              obtain ⟨o7, c7, rfl, _, _⟩ := hv7.shape
                              rw [hl7]
                              have hrk : ¬ room < (kk : Int) := by omega
                              have HB7 := Lib.hid (below_call (by first | exact (Below.refl _ _).drew | exact below_drewN (Below.refl _ _) _ : Below w6.heap.size w6 _) (by first | exact Nat.le_refl _ | simp) hb7)
                              clear hv7 hb7
                              go_wp2_with fail
                              refine hK.out _ _ (by exact HSof.out _ HB7.out) (fun hHeld => ?_)
                              clear hK K
                              try simp only [Act.put, List.setIfInBounds_toArray, List.set_cons_zero, List.set_cons_succ]
                              refine wpTill_take0 (i := 6) (oi := ⟨some 59, _, _, _, _, _⟩) (v := ?_) rfl (by kernel_rfl) (fun _ _ _ h => h) (Or.inl ⟨by rfl, ?_⟩) (fun _ => hHeld) ?_
                              rotate_left
                              · intro w hSw
                                (try dsimp only at hSw)
                                go_simp
                                try with_reducible rfl
                              try simp only [Act.put, List.setIfInBounds_toArray, List.set_cons_zero, List.set_cons_succ]
                              refine wpTill_take0 (i := 9) (oi := ⟨some 62, _, _, _, _, _⟩) (v := .bool false) rfl (by kernel_rfl) (fun _ _ _ h => h) (Or.inl ⟨by rfl, ?_⟩) (fun _ => hHeld) ?_
                              · intro w hSw
                                (try dsimp only at hSw)
                                go_simp
                                try with_reducible rfl
                              try simp only [Act.put, List.setIfInBounds_toArray, List.set_cons_zero, List.set_cons_succ]
                              refine wpTill_take0 (i := 10) (oi := ⟨some 63, _, _, _, _, _⟩) (v := ?_) rfl (by kernel_rfl) (fun _ _ _ h => h) (Or.inl ⟨by rfl, ?_⟩) (fun _ => hHeld) ?_
                              rotate_left
                              · intro w hSw
                                (try dsimp only at hSw)
                                go_simp
                                try with_reducible rfl
                              try simp only [Act.put, List.setIfInBounds_toArray, List.set_cons_zero, List.set_cons_succ]
                              refine wpTill_take0 (i := 11) (oi := ⟨some 64, _, _, _, _, _⟩) (v := ?_) rfl (by kernel_rfl) (fun _ _ _ h => h) (Or.inl ⟨by rfl, ?_⟩) (fun _ => hHeld) ?_
                              rotate_left
                              · intro w hSw
                                (try dsimp only at hSw)
                                go_simp
                                try with_reducible rfl
                              try simp only [Act.put, List.setIfInBounds_toArray, List.set_cons_zero, List.set_cons_succ]
                              refine wpTill_take0 (i := 12) (oi := ⟨some 65, _, _, _, _, _⟩) (v := ?_) rfl (by kernel_rfl) (fun _ _ _ h => h) (Or.inl ⟨by rfl, ?_⟩) (fun _ => hHeld) ?_
                              rotate_left
                              · intro w hSw
                                (try dsimp only at hSw)
                                go_simp
                                try with_reducible rfl
                              try simp only [Act.put, List.setIfInBounds_toArray, List.set_cons_zero, List.set_cons_succ]
                              refine wpTill_take0 (i := 13) (oi := ⟨some 66, _, _, _, _, _⟩) (v := ?_) rfl (by kernel_rfl) (fun _ _ _ h => h) (Or.inl ⟨by rfl, ?_⟩) (fun _ => hHeld) ?_
                              rotate_left
                              · intro w hSw
                                (try dsimp only at hSw)
                                go_simp
                                try with_reducible rfl
                              try simp only [Act.put, List.setIfInBounds_toArray, List.set_cons_zero, List.set_cons_succ]
                              refine wpTill_take (i := 14) (oi := ⟨some 67, _, _, _, _, _⟩) (v := ?_) rfl (by kernel_rfl) (fun _ _ _ h => h) (Or.inl ⟨by rfl, ?_⟩) (by exact hHeld) ?_
                              rotate_left
                              · intro w hSw
                                (try dsimp only at hSw)
                                go_simp
                                try with_reducible rfl
                              try simp only [Act.put, List.setIfInBounds_toArray, List.set_cons_zero, List.set_cons_succ]
                              refine wpTill_take0 (i := 15) (oi := ⟨some 68, _, _, _, _, _⟩) (v := ?_) rfl (by kernel_rfl) (fun _ _ _ h => h) (Or.inl ⟨by rfl, ?_⟩) (fun _ => hHeld) ?_
                              rotate_left
                              · intro w hSw
                                (try dsimp only at hSw)
                                go_simp
                                try with_reducible rfl
                              try simp only [Act.put, List.setIfInBounds_toArray, List.set_cons_zero, List.set_cons_succ]
                              refine wpTill_take0 (i := 16) (oi := ⟨some 69, _, _, _, _, _⟩) (v := .bool false) rfl (by kernel_rfl) (fun _ _ _ h => h) (Or.inl ⟨by rfl, ?_⟩) (fun _ => hHeld) ?_
                              · intro w hSw
                                (try dsimp only at hSw)
                                go_simp
                                try with_reducible rfl
                              try simp only [Act.put, List.setIfInBounds_toArray, List.set_cons_zero, List.set_cons_succ]
                              refine wpTill_take0 (i := 17) (oi := ⟨some 70, _, _, _, _, _⟩) (v := ?_) rfl (by kernel_rfl) (fun _ _ _ h => h) (Or.inl ⟨by rfl, ?_⟩) (fun _ => hHeld) ?_
                              rotate_left
                              · intro w hSw
                                (try dsimp only at hSw)
                                go_simp
                                try with_reducible rfl
                              try simp only [Act.put, List.setIfInBounds_toArray, List.set_cons_zero, List.set_cons_succ]
                              refine wpTill_done (by kernel_rfl) ?_ _
                              go_wp2_with fail
                              go_meet
                              case rel => exact ⟨rfl, HB7.out⟩
                          case rest =>
                           as_aux_lemma =>
                            obtain ⟨rfl, hb7⟩ := hcut
                            have HX7 := Lib.hid (HX.out.later hb7)
                            clear hb7 HX HSof HR
                            generalize wc = w7 at *
                            rcases HX7.out.or with ⟨h5, hfn, s', hK, hI, e1, e2, e3⟩ | ⟨h4, od, cd, fin, s', hf, hK, hM, e1, e2, e3, hv, hlm, hB, hfin⟩
                            · obtain rfl : rst = true := by rw [← HS.out.2.1]; exact decide_eq_true h5
                              have hyr := hK.at1
                              have y7 := (cell_at hyr 7).trans (by rfl : _ = some (Value.int .u64 f.fnl))
                              rw [hfn] at y7
                              have HKR := Lib.hid (show KR w w7 r (k + 1) u4 lim true ov _ from ⟨s', by rw [e2]; exact hK, hI, e1.trans HS.out.1, by rw [e3]; rfl, by rw [e2]; exact HS.out.2.2⟩)
                              obtain ⟨fp, og, hA⟩ := hK
                              have HQ := Lib.hid (fun n => ssent_q r s' fp (w7.drewN n) (hA.1.drewN n))
                              rw [e2] at HQ
                              generalize s.os.sent = sn at *
                              clear hyr hA hI e1 e2 e3 hfn h5 HX7
                              go_upto_region 18 with fail
                              go_cut [76] (fun v wx => v = .bool false ∧ ∃ m, wx = w7.drewN m)
                              case first =>
                                go_quiet (first
                                  | (go_at_call 22; exact Calls.quiet_of (HQ.out _)))
                                go_wp2_with fail
                                go_meet
                                case rel => exact ⟨rfl, _, rfl⟩
                              case rest =>
                                obtain ⟨rfl, m, rfl⟩ := hcut
                                have H8 := Lib.hid (HKR.out.later (below_drewN (Below.refl _ _) m))
                                clear HKR HQ y7
                                go_wp2_with fail
                                go_roundw
                                case rel => exact ⟨k + 1, lim, true, ov, by go_num, by omega, rfl, rfl, rfl, H8.out.drop⟩
                                case measure => simp [intOf]; omega
                            · obtain rfl : rst = false := by rw [← HS.out.2.1]; exact decide_eq_false (by omega)
                              subst hf
                              have hyr := hK.at1
                              have hzr := hK.at2
                              have y0 := (cell_at hyr 0).trans (by rfl : _ = some (Value.int .i64 8))
                              have y2 := (cell_at hyr 2).trans (by rfl : _ = some (Value.int .u64 off))
                              have y3 := (cell_at hyr 3).trans (by rfl : _ = some (Value.slice od ln cd))
                              have y4 := (cell_at hyr 4).trans (by rfl : _ = some (Value.bool fin))
                              have HK7 := Lib.hid (show KA w w7 r s' u4 s.os.B _ from hK)
                              have HM7 := Lib.hid (And.intro hM (And.intro (e1.trans HS.out.1) (And.intro e2 (e3.trans HS.out.2.2))))
                              obtain ⟨fp, og, hA⟩ := hK
                              have hsl := hA.2.2.2.1
                              have hB4 := HI.out.gi.l4
                              rw [HS.out.1] at hlm
                              rw [HS.out.2.2] at hfin
                              rw [ht2] at hlm hB hfin
                              obtain ⟨nB, hnB⟩ : ∃ nB, s.os.B.length = nB := ⟨_, rfl⟩
                              rw [hnB] at hB hfin hB4
                              have HNB := Lib.hid hnB
                              obtain ⟨ou, cu, hou, hcu1, hcu2⟩ := hsl.vw.shape
                              rw [hnB] at hou hcu1
                              have hog : ¬ cu = off → ∃ g, ou = some ⟨g, 0, none⟩ := by
                                intro hne
                                rcases hsl with ⟨q1, q2, q3⟩ | ⟨g, ys, q1, q2, q3⟩
                                · rw [hou] at q1
                                  cases q1
                                  exact absurd (by omega) hne
                                · rw [hou] at q2
                                  cases q2
                                  exact ⟨g, rfl⟩
                              subst hou
                              have hvp := (hsl.vw.mid (k := 1) encB_len (l := off) (h := t) (by omega) hB)
                              have htf : t - off = ln := by omega
                              rw [htf] at hvp
                              have hx1 := fun m => (hv.rds.drewN m).str (P := Try.prog) (src := 36) (dst := 9) Try.underlying36 Try.underlying5 Try.underlying9
                              have hx2 := fun m => (hvp.rds.drewN m).str (P := Try.prog) (src := 36) (dst := 9) Try.underlying36 Try.underlying5 Try.underlying9
                              generalize strB ((s.os.B.drop off).take ln) = str at *
                              have hwn : IntKind.u64.wrap (nB : Int) = nB := IntWalk.u64_in _ (by omega)
                              have hnt : decide (nB < t) = false := by simp; omega
                              have hnt2 : decide ((nB : Int) < (t : Int)) = false := by simp; omega
                              have hft2 : off ≤ t := by omega
                              have htc : t ≤ cu := by omega
                              have hoi : ¬ (cu : Int) < (t : Int) := by omega
                              clear hyr hzr hA hsl hvp hv hM e1 e2 e3 hvd hsid hfo hk4 hk4b hy hbd1 hbd2 hnB HX7 hai1 hai2
                              go_upto_region 20 with fail
                              go_cut [124] (fun v wx => v = .bool false ∧ ∃ m, wx = w7.drewN m)
                              case first =>
                                as_aux_lemma =>
                                  cases fin
                                  · by_cases hl : t ≤ lim
                                    · have hlt3 : ¬ lim < t := by omega
                                      by_cases hcu : cu = off
                                      · subst hcu
                                        simp only [partV, ↓reduceIte, Nat.sub_self, htf] at hx2
                                        as_aux_lemma =>
                                          go_wp2_with fail
                                          go_quiet (fail)
                                          go_wp2_with fail
                                          go_meet
                                          case rel => exact ⟨rfl, _, rfl⟩
                                      · obtain ⟨g, rfl⟩ := hog hcu
                                        simp only [partV_at hcu, htf] at hx2
                                        as_aux_lemma =>
                                          go_wp2_with fail
                                          go_quiet (fail)
                                          go_wp2_with fail
                                          go_meet
                                          case rel => exact ⟨rfl, _, rfl⟩
                                    · have hln : ln = 0 := by omega
                                      subst hln
                                      have hlt3 : lim < t := by omega
                                      by_cases hcu : cu = off
                                      · subst hcu
                                        simp only [partV, ↓reduceIte, Nat.sub_self, htf] at hx2
                                        as_aux_lemma =>
                                          go_wp2_with fail
                                          go_quiet (fail)
                                          go_wp2_with fail
                                          go_meet
                                          case rel => exact ⟨rfl, _, rfl⟩
                                      · obtain ⟨g, rfl⟩ := hog hcu
                                        simp only [partV_at hcu, htf] at hx2
                                        as_aux_lemma =>
                                          go_wp2_with fail
                                          go_quiet (fail)
                                          go_wp2_with fail
                                          go_meet
                                          case rel => exact ⟨rfl, _, rfl⟩
                                  · obtain ⟨hov, htn⟩ := hfin rfl
                                    subst hov htn
                                    by_cases hl : t ≤ lim
                                    · have hlt3 : ¬ lim < t := by omega
                                      by_cases hcu : cu = off
                                      · subst hcu
                                        simp only [partV, ↓reduceIte, Nat.sub_self, htf] at hx2
                                        as_aux_lemma =>
                                          go_wp2_with fail
                                          go_quiet (fail)
                                          go_wp2_with fail
                                          go_meet
                                          case rel => exact ⟨rfl, _, rfl⟩
                                      · obtain ⟨g, rfl⟩ := hog hcu
                                        simp only [partV_at hcu, htf] at hx2
                                        as_aux_lemma =>
                                          go_wp2_with fail
                                          go_quiet (fail)
                                          go_wp2_with fail
                                          go_meet
                                          case rel => exact ⟨rfl, _, rfl⟩
                                    · have hln : ln = 0 := by omega
                                      subst hln
                                      have hlt3 : lim < t := by omega
                                      by_cases hcu : cu = off
                                      · subst hcu
                                        simp only [partV, ↓reduceIte, Nat.sub_self, htf] at hx2
                                        as_aux_lemma =>
                                          go_wp2_with fail
                                          go_quiet (fail)
                                          go_wp2_with fail
                                          go_meet
                                          case rel => exact ⟨rfl, _, rfl⟩
                                      · obtain ⟨g, rfl⟩ := hog hcu
                                        simp only [partV_at hcu, htf] at hx2
                                        as_aux_lemma =>
                                          go_wp2_with fail
                                          go_quiet (fail)
                                          go_wp2_with fail
                                          go_meet
                                          case rel => exact ⟨rfl, _, rfl⟩
                              case rest =>
                               as_aux_lemma =>
                                obtain ⟨rfl, m, rfl⟩ := hcut
                                have HK8 := Lib.hid (HK7.out.drewN m)
                                have hyr := HK8.out.at1
                                have hzr := HK8.out.at2
                                have HYR := Lib.hid hyr
                                have z2 : (w7.drewN m).cell? ⟨z, 2, none⟩ = some (.int .i64 ai) := (cell_at hzr 2).trans rfl
                                clear hyr hzr HK7 y0 y2 y3 y4 hx1 hx2 hog
                                generalize w7.drewN m = w8 at *
                                by_cases hai : ai.tmod 2 = 0
                                · have haib : (ai.tmod 2 == 0) = true := by simp [hai]
                                  go_wp2_with (refine wpList_load_row rfl 39 (.tmp 13) rfl _ rfl _ _ (0, 0) _ (by exact HYR.out) Try.underlying39 rfl (by rw [sizeF]; rfl) ?_)
                                  refine (keep_lost w _ r k off ln cd od fin s' _ s.os.B (by exact HK8.out) HM7.out.1).mono ?_
                                  rintro e w9 ⟨rfl, s9, hK9, hI9, f1, f2, f3, f4⟩
                                  have H9 := Lib.hid (show KR w w9 r (k + 1) _ lim false ov _ from ⟨s9, by rw [f3, HM7.out.2.2.1]; exact hK9, hI9, f1.trans HM7.out.2.1, decide_eq_false (by omega), f2.trans HM7.out.2.2.2⟩)
                                  clear hK9 hI9 f1 f2 f3 f4 HK8 HYR
                                  go_wp2_with fail
                                  go_roundw
                                  case rel => exact ⟨k + 1, lim, false, ov, by go_num, by omega, rfl, rfl, rfl, H9.out.drop⟩
                                  case measure => simp [intOf]; omega
                                · have haib : (ai.tmod 2 == 0) = false := by simp [hai]
                                  go_wp2_with (refine wpList_load_row rfl 39 (.tmp 13) rfl _ rfl _ _ (0, 0) _ (by exact HYR.out) Try.underlying39 rfl (by rw [sizeF]; rfl) ?_)
                                  refine (keep_ack w _ r k off ln cd od fin s' _ s.os.B (by exact HK8.out) HM7.out.1).mono ?_
                                  rintro e w9 ⟨rfl, s9, hK9, hI9, f1, f2, f3, f4⟩
                                  have H9 := Lib.hid (show KR w w9 r (k + 1) _ lim false ov _ from ⟨s9, by rw [f3, HM7.out.2.2.1]; exact hK9, hI9, f1.trans HM7.out.2.1, decide_eq_false (by omega), f2.trans HM7.out.2.2.2⟩)
                                  clear hK9 hI9 f1 f2 f3 f4 HK8 HYR
                                  go_wp2_with fail
                                  go_roundw
                                  case rel => exact ⟨k + 1, lim, false, ov, by go_num, by omega, rfl, rfl, rfl, H9.out.drop⟩
                                  case measure => simp [intOf]; omega
      · go_wp2_with fail
        refine (sknown_any _).mono ?_
        rintro x w5 ⟨rfl, hb⟩
        have HB := Lib.hid (below_call H.out.bd.1 H.out.bd.1.size hb)
        clear hb
        go_wp2_with fail
        go_ret
        exact ⟨rfl, HB.out⟩
    · go_wp2_with fail
      refine (sknown_any _).mono ?_
      rintro x w5 ⟨rfl, hb⟩
      have HB := Lib.hid (below_call H.out.bd.1 H.out.bd.1.size hb)
      clear hb
      go_wp2_with fail
      go_ret
      exact ⟨rfl, HB.out⟩
end Go.Proofs.Ytncfbaabhceeoaa
