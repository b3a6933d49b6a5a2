/- The law ReceiverLimits of narthexlaw17 returns true for every input, and the arguments read afterwards as before. Conditions: none beyond the row's own. -/
import Derived.Test.YtebiebcpdjipjaaQ2
import Derived.Test.YtebiebcpdjipjaaQ10
import Derived.Test.YtebiebcpdjipjaaQ11
namespace Go.Proofs.Ytebiebcpdjipjaa
open Go.RowKit

set_option maxRecDepth 100000 in
theorem rref_new_b (id win : Nat) (w : World) (hid : id < 18446744073709551616) (hw : win < 18446744073709551616) :
    Calls Try.prog 15 #[.int .u64 id, .int .u64 win] w fun e w' => (∃ z, e = .returned (.pointer (some ⟨z, 0, none⟩))) ∧ Below w.heap.size w w' := by
  by_cases h : 2048 < win
  · have hi : (2048 : Int) < (win : Int) := by omega
    go_enter Try.func15, Try.ntmps15
    go_wp2_with fail
    go_ret
    exact ⟨⟨_, rfl⟩, (Below.refl _ _).alloc (Nat.le_refl _) _⟩
  · have hi : ¬ (2048 : Int) < (win : Int) := by omega
    go_enter Try.func15, Try.ntmps15
    go_wp2_with fail
    go_ret
    exact ⟨⟨_, rfl⟩, (Below.refl _ _).alloc (Nat.le_refl _) _⟩
theorem RAt.takb {fp : Nat → Prop} {w : World} {r : Nat} {s : RS} (h : RAt w r s fp) : s.taken ≤ 1099511640000 := by
  have hok := h.ok
  obtain ⟨b, fb, h0, hfp⟩ := h
  unfold RS.taken
  split
  · exact hok.fnl
  · have := h0.buf.bd.1
    omega
structure LimB (W w : World) (r q : Nat) (m : Value) (k : Nat) (s : RS) (fp : Nat → Prop) : Prop where
  at_ : RAt w r s fp
  new : ∀ j, fp j → W.heap.size ≤ j
  nq : ¬ fp q
  below : Below W.heap.size W w
  li : LimI k s
  box : w.heap[q]? = some (.cells #[.pointer (some ⟨r, 0, none⟩), m, .slice none 0 0] 48 (0, 0))
  hq : W.heap.size ≤ q
theorem LimB.later {W w w' : World} {r q k : Nat} {m : Value} {s : RS} {fp : Nat → Prop} (h : LimB W w r q m k s fp) (hb : Below w.heap.size w w') : LimB W w' r q m k s fp :=
  ⟨h.at_.below hb, h.new, h.nq, below_call h.below h.below.size hb, h.li, below_keeps hb h.box (heap_lt h.box), h.hq⟩
theorem LimB.drew {W w : World} {r q k : Nat} {m : Value} {s : RS} {fp : Nat → Prop} (h : LimB W w r q m k s fp) : LimB W w.drew r q m k s fp := h.later (Below.refl _ _).drew
theorem LimB.went {W w w' : World} {r q k : Nat} {m : Value} {s s' : RS} {fp : Nat → Prop} (h : LimB W w r q m k s fp) (hm : RM w w' fp r s') (hi : LimI k s') : ∃ fp', LimB W w' r q m k s' fp' := by
  obtain ⟨fp', h1, h2⟩ := hm
  have hs := h.below.size
  refine ⟨fp', h1, fun j hj => ?_, fun hj => ?_, Upd.belowOf h.below h2.upd (fun j hj q => by have := h.new j q; omega), hi, h2.upd.keeps h.box h.nq, h.hq⟩
  · rcases h2.new j hj with x | x
    · exact h.new j x
    · omega
  · rcases h2.new q hj with x | x
    · exact h.nq x
    · have := heap_lt h.box
      omega
/-- Behind a round's call. -/
def LimN (W w : World) (r q : Nat) (m : Value) (k was : Nat) : Prop := ∃ s fp, LimB W w r q m k s fp ∧ was ≤ s.lim ∧ (was < s.lim → s.lim ≤ s.taken + k)
set_option maxRecDepth 100000 in
set_option maxHeartbeats 8000000 in
theorem limits_walk (win : Nat) (vl : Value) (L : List AkR) (w : World) (hwin : win < 18446744073709551616) (hl : Vw encK w w.heap.size vl L) (hL : ∀ a ∈ L, AkROk w w.heap.size a) :
    Calls Try.prog 4 #[.int .u64 win, vl] w fun e w' => e = .returned (.bool true) ∧ Below w.heap.size w w' := by
  obtain ⟨ol, capl, rfl, hcl1, hcl2⟩ := hl.shape
  have HVL := Lib.hid hl
  have HLO := Lib.hid hL
  clear hl hL
  generalize hn : L.length = len at *
  have HN := Lib.hid hn
  clear hn
  obtain ⟨k, hk, hk2⟩ : ∃ k, win % 300 = k ∧ k ≤ 299 := ⟨_, rfl, by omega⟩
  have hki : (win : Int).tmod 300 = (k : Int) := by rw [Int.tmod_eq_emod_of_nonneg (by omega)]; omega
  clear hk
  go_enter Try.func4, Try.ntmps4
  go_wp2_with fail
  refine (rnew_any 3 k _ (by decide) (by omega)).mono ?_
  rintro e w1 ⟨r, rfl, hm⟩
  obtain ⟨fp1, hr, hnw, hbl⟩ := hm
  have HR := Lib.hid hr
  have HNW := Lib.hid (And.intro hnw hbl)
  clear hr hnw hbl
  go_wp2_with fail
  refine (rref_new_b 3 k _ (by decide) (by omega)).mono ?_
  rintro e w2 ⟨⟨m, rfl⟩, hb2⟩
  have H2 := Lib.hid (show LimB w (w2.alloc (.cells #[.pointer (some ⟨r, 0, none⟩), .pointer (some ⟨m, 0, none⟩), .slice none 0 0] 48)) r w2.heap.size (.pointer (some ⟨m, 0, none⟩)) k (RS.new 3 k) fp1 from by
    have h1 := below_call HNW.out.2 HNW.out.2.size hb2
    have h2 := (Below.refl w2.heap.size w2).alloc (Nat.le_refl _) (.cells #[.pointer (some ⟨r, 0, none⟩), .pointer (some ⟨m, 0, none⟩), .slice none 0 0] 48)
    exact ⟨(HR.out.below hb2).below h2, HNW.out.1, fun q => by have := HR.out.lt.2 _ q; have := hb2.size; omega, below_call h1 h1.size h2, (LimI.new k (by omega)).1, alloc_at _ _, h1.size⟩)
  clear hb2 HR HNW
  have e0 := (cell_at H2.out.box 0).trans (by rfl : _ = some (Value.pointer (some ⟨r, 0, none⟩)))
  generalize hq : w2.heap.size = q at *
  go_wp2_with fail
  refine (rlimit_q r _ fp1 _ (by exact H2.out.at_)).mono ?_
  rintro e w3 ⟨rfl, q3, rfl⟩
  have H3 := Lib.hid (H2.out.later (below_drewN (Below.refl _ _) q3))
  clear H2 e0 hq
  have hlim0 := (LimI.new k (by omega)).2
  go_wp2_with fail
  go_loopw [8, 7] (fun i was wr => ∃ (j : Nat) (s : RS) (fp : Nat → Prop), i = .int .i64 j ∧ j ≤ 60 ∧ was = .int .u64 s.lim ∧ LimB w wr r q (.pointer (some ⟨m, 0, none⟩)) k s fp) (fun i _ _ => 60 - (intOf i).toNat)
  case atStart => exact ⟨0, _, fp1, rfl, by omega, by rw [hlim0], H3.out⟩
  case round =>
    obtain ⟨j, s, fp, rfl, hj, rfl, hst⟩ := hrel
    have H := Lib.hid hst
    clear hst H3 hlim0
    by_cases hlt : j < len
    · by_cases hlt2 : j < 60
      · obtain ⟨a, hak⟩ : ∃ a, L[j]? = some a := ⟨_, List.getElem?_eq_getElem (by rw [HN.out]; exact hlt)⟩
        obtain ⟨b, ofb, rfl, hbb, hcs⟩ := AkR.cells HVL.out hak
        have hok := HLO.out a (List.mem_of_getElem? hak)
        have HCS := Lib.hid (fun jj v hj => cell_keep H.out.below hbb (hcs jj v hj))
        clear hak hcs
        obtain ⟨kd, off, most, ai, an, fin, vd, fk, fa, fb, fc, fd, ff, fr, fn⟩ := a
        obtain ⟨hkd1, hkd2⟩ := hok.kd
        obtain ⟨hof1, hof2⟩ := hok.off
        obtain ⟨hmo1, hmo2⟩ := hok.most
        obtain ⟨dl, hdv, hdb⟩ := hok.vd
        obtain ⟨fdl, hfdv, _⟩ := hok.fd
        obtain ⟨frl, hfrv, _⟩ := hok.fr
        simp only at hkd1 hkd2 hof1 hof2 hmo1 hmo2 hdv hfdv hfrv
        obtain ⟨ofd, cfd, hq1, _, _⟩ := hfdv.shape
        obtain ⟨ofr, cfr, hq2, _, _⟩ := hfrv.shape
        generalize fdl.length = nfd at hq1
        generalize frl.length = nfr at hq2
        subst hq1
        subst hq2
        clear hok hfdv hfrv
        obtain ⟨od, nd, cd, rfl, hnd, hcd, hcd2, hfront⟩ := kcut_v hdv 40 (by omega)
        obtain ⟨dn, hdn, hdn2⟩ : ∃ dn, min nd 40 = dn ∧ dn ≤ 40 := ⟨_, rfl, by omega⟩
        obtain ⟨D, hD⟩ : ∃ D, dl.take 40 = D := ⟨_, rfl⟩
        have hDl : D.length = dn := by rw [← hD, List.length_take]; omega
        have hDb : Bys D := fun x hx => hdb x (by rw [← hD] at hx; exact List.mem_of_mem_take hx)
        rw [hdn, hD] at hfront
        have HDF := Lib.hid hfront
        have HDN := Lib.hid hdn
        have HDL := Lib.hid hDl
        have HBY := Lib.hid hDb
        clear hdv hdb hfront hdn hD hDl hDb hnd
        simp only [encK] at HCS
        obtain ⟨O, hO, hO2⟩ : ∃ O : Nat, withinS off 0 400 = (O : Int) ∧ O ≤ 400 := ⟨(withinS off 0 400).toNat, by have := withinS_bd off 0 400 (by omega); omega, by have := withinS_bd off 0 400 (by omega); omega⟩
        have HO := Lib.hid hO
        have hwO : IntKind.u64.wrap (O : Int) = O := IntWalk.u64_in _ (by omega)
        clear hO
        have e0 := (cell_at H.out.box 0).trans (by rfl : _ = some (Value.pointer (some ⟨r, 0, none⟩)))
        obtain ⟨was, hwas⟩ : ∃ was, s.lim = was := ⟨_, rfl⟩
        obtain ⟨st, hst⟩ : ∃ st, s.st = st := ⟨_, rfl⟩
        obtain ⟨hi, hhi⟩ : ∃ hi, s.high = hi := ⟨_, rfl⟩
        obtain ⟨tk, htk⟩ : ∃ tk, s.taken = tk := ⟨_, rfl⟩
        have HV := Lib.hid (And.intro hwas (And.intro hst (And.intro hhi htk)))
        have hstb := H.out.li.st
        rw [hst] at hstb
        rw [hwas]
        clear hwas hst hhi htk
        go_upto_region 9 with fail
        go_cut [9, 10, 11] (fun v9 v10 v11 wx => v9 = .int .u64 hi ∧ v10 = .int .i64 st ∧ v11 = .int .u64 tk ∧ ∃ n, wx = wr.drewN n)
        case first =>
          as_aux_lemma =>
            have hqh := fun n => rhigh_q r s fp (wr.drewN n) (H.out.at_.drewN n)
            have hqs := fun n => rstate_q r s fp (wr.drewN n) (H.out.at_.drewN n)
            have hqt := fun n => rtaken_q r s fp (wr.drewN n) (H.out.at_.drewN n)
            rw [HV.out.2.2.1] at hqh
            rw [HV.out.2.1] at hqs
            rw [HV.out.2.2.2] at hqt
            have HQ := Lib.hid (And.intro hqh (And.intro hqs hqt))
            clear hqh hqs hqt
            go_quiet (first
              | (go_at_call 17; exact Calls.quiet_of (HQ.out.1 _))
              | (go_at_call 13; exact Calls.quiet_of (HQ.out.2.1 _))
              | (go_at_call 18; exact Calls.quiet_of (HQ.out.2.2 _)))
            go_wp2_with fail
            go_meet
            case rel => exact ⟨rfl, rfl, rfl, _, rfl⟩
        case rest =>
          obtain ⟨rfl, rfl, rfl, n, rfl⟩ := hcut
          have H2 := Lib.hid (H.out.later (below_drewN (Below.refl _ _) n))
          have HCS2 := Lib.hid (show ∀ (jj : Nat) (v : Value), ([.int .i64 kd, .int .i64 off, .int .i64 most, .int .i64 ai, .int .u64 an, .bool fin, .slice od nd cd, .int .i64 fk, .int .u64 fa, .int .u64 fb, .int .u64 fc, .slice ofd nfd cfd, .bool ff, .slice ofr nfr cfr, .int .i64 fn] : List Value)[jj]? = some v → (wr.drewN n).cell? ⟨b, ofb + j * 15 + jj, none⟩ = some v from fun jj v hj => HCS.out jj v hj)
          clear e0 H
          generalize wr.drewN n = w2 at *
          go_upto_region 10 with fail
          go_cut [12] (fun v wx => ∃ z, v = .pointer (some ⟨z, 0, none⟩) ∧ w2.heap.size ≤ z ∧ Below w2.heap.size w2 wx ∧ wx.heap[z]? = some (.cells #[.int .i64 kd, .int .i64 off, .int .i64 most, .int .i64 ai, .int .u64 an, .bool fin, .slice od nd cd, .int .i64 fk, .int .u64 fa, .int .u64 fb, .int .u64 fc, .slice ofd nfd cfd, .bool ff, .slice ofr nfr cfr, .int .i64 fn] 54 (0, 0)))
          case first =>
            as_aux_lemma =>
              go_wp2_with (first
                | refine wpList_load_at rfl 54 (.tmp 60) rfl b (ofb + j * 15) rfl [.int .i64 kd, .int .i64 off, .int .i64 most, .int .i64 ai, .int .u64 an, .bool fin, .slice od nd cd, .int .i64 fk, .int .u64 fa, .int .u64 fb, .int .u64 fc, .slice ofd nfd cfd, .bool ff, .slice ofr nfr cfr, .int .i64 fn] _ (by exact HCS2.out) Try.underlying54 rfl (by rw [sizeK]; rfl) ?_
                | refine wpList_store_row rfl 54 (.tmp 12) (.tmp 61) rfl _ _ rfl rfl 54 #[.int .i64 0, .int .i64 0, .int .i64 0, .int .i64 0, .int .u64 0, .bool false, .slice none 0 0, .int .i64 0, .int .u64 0, .int .u64 0, .int .u64 0, .slice none 0 0, .bool false, .slice none 0 0, .int .i64 0] (by exact alloc_at _ _) (by rw [sizeK]; rfl) rfl (by simp [Value.oneCell']) ?_)
              go_meet
              case rel => exact ⟨_, rfl, Nat.le_refl _, setRow_below ((Below.refl _ _).alloc (Nat.le_refl _) _) (Nat.le_refl _), setRow_heap _ _ #[.int .i64 0, .int .i64 0, .int .i64 0, .int .i64 0, .int .u64 0, .bool false, .slice none 0 0, .int .i64 0, .int .u64 0, .int .u64 0, .int .u64 0, .slice none 0 0, .bool false, .slice none 0 0, .int .i64 0] _ _ _ (alloc_at _ _)⟩
          case rest =>
            obtain ⟨z, rfl, hz, hb3, hkz⟩ := hcut
            have H3 := Lib.hid (H2.out.later hb3)
            have HKZ3 := Lib.hid hkz
            have HZ3 := Lib.hid (Nat.le_trans H2.out.below.size hz)
            have HZN := Lib.hid (show ¬ fp z from fun q => by have := H2.out.at_.lt.2 z q; omega)
            clear hz hb3 hkz HCS2 H2 HCS
            generalize wc = w3 at *
            have z0 : w3.cell? ⟨z, 0, none⟩ = some (.int .i64 kd) := (cell_at HKZ3.out 0).trans rfl
            go_upto_if 64 with fail
            go_cut [] (fun wx => LimN w wx r q (.pointer (some ⟨m, 0, none⟩)) k was)
            case first =>
              as_aux_lemma =>
                by_cases hk2 : kd ≤ 2
                · have HSof := Lib.hid (show ∀ W, Below w3.heap.size w3 W → W.cell? ⟨z, 1, none⟩ = some (.int .i64 off) ∧ W.cell? ⟨z, 5, none⟩ = some (.bool fin) ∧ W.cell? ⟨z, 6, none⟩ = some (.slice od nd cd) from fun W hb => by
                    have hz := heap_lt HKZ3.out
                    exact ⟨cell_keep hb hz ((cell_at HKZ3.out 1).trans rfl), cell_keep hb hz ((cell_at HKZ3.out 5).trans rfl), cell_keep hb hz ((cell_at HKZ3.out 6).trans rfl)⟩)
                  clear z0
                  go_upto_region 12 with fail
                  go_cut [13] (fun v wx => ∃ y, v = .pointer (some ⟨y, 0, none⟩) ∧ w3.heap.size ≤ y ∧ Below w3.heap.size w3 wx ∧ wx.heap[y]? = some (.cells #[.int .i64 8, .int .u64 3, .int .u64 O, .slice od dn cd, .bool fin, .int .u64 0, .int .u64 0, .int .u64 0, .int .u64 0, .int .u64 0, .slice none 0 0, .int .u8 0, .int .u8 0, .int .u8 0, .int .u8 0, .int .u8 0, .int .u8 0, .int .u8 0, .int .u8 0] 35 (0, 0)))
                  case first =>
                    as_aux_lemma =>
                      go_wp2_with fail
                      refine wp_region_till (S := fun w' => w'.cell? ⟨z, 1, none⟩ = some (.int .i64 off) ∧ w'.cell? ⟨z, 5, none⟩ = some (.bool fin) ∧ w'.cell? ⟨z, 6, none⟩ = some (.slice od nd cd)) [] (by kernel_rfl) (by exact HSof.out _ ((Below.refl _ _).drew)) (fun hHeld => ?_)
                      refine wpTill_take0 (i := 0) (oi := ⟨some 65, _, _, _, _, _⟩) (v := ?_) rfl (by kernel_rfl) (fun _ _ _ h => h) (Or.inl ⟨by rfl, ?_⟩) (fun _ => hHeld) ?_
                      rotate_left
                      · intro w hSw
                        (try dsimp only at hSw)
                        go_simp
                        try with_reducible rfl
                      try simp only [Act.put, List.setIfInBounds_toArray, List.set_cons_zero, List.set_cons_succ]
                      refine wpTill_take (i := 1) (oi := ⟨some 66, _, _, _, _, _⟩) (v := ?_) rfl (by kernel_rfl) (fun _ _ _ h => h) (Or.inl ⟨by rfl, ?_⟩) (by exact hHeld) ?_
                      rotate_left
                      · intro w hSw
                        (try dsimp only at hSw)
                        go_simp
                        try with_reducible rfl
                      try simp only [Act.put, List.setIfInBounds_toArray, List.set_cons_zero, List.set_cons_succ]
                      refine wpTill_take0 (i := 4) (oi := ⟨some 69, _, _, _, _, _⟩) (v := ?_) rfl (by kernel_rfl) (fun _ _ _ h => h) (Or.inl ⟨by rfl, ?_⟩) (fun _ => hHeld) ?_
                      rotate_left
                      · intro w hSw
                        (try dsimp only at hSw)
                        go_simp
                        try with_reducible rfl
                      try simp only [Act.put, List.setIfInBounds_toArray, List.set_cons_zero, List.set_cons_succ]
                      refine wpTill_take (i := 5) (oi := ⟨some 70, _, _, _, _, _⟩) (v := ?_) rfl (by kernel_rfl) (fun _ _ _ h => h) (Or.inl ⟨by rfl, ?_⟩) (by exact hHeld) ?_
                      rotate_left
                      · intro w hSw
                        (try dsimp only at hSw)
                        go_simp
                        try with_reducible rfl
                      try simp only [Act.put, List.setIfInBounds_toArray, List.set_cons_zero, List.set_cons_succ]
                      refine wpTill_take0 (i := 7) (oi := ⟨some 72, _, _, _, _, _⟩) (v := ?_) rfl (by kernel_rfl) (fun _ _ _ h => h) (Or.inl ⟨by rfl, ?_⟩) (fun _ => hHeld) ?_
                      rotate_left
                      · intro w hSw
                        (try dsimp only at hSw)
                        go_simp
                        try with_reducible rfl
                      try simp only [Act.put, List.setIfInBounds_toArray, List.set_cons_zero, List.set_cons_succ]
                      refine wpTill_take (i := 8) (oi := ⟨some 73, _, _, _, _, _⟩) (v := ?_) rfl (by kernel_rfl) (fun _ _ _ h => h) (Or.inl ⟨by rfl, ?_⟩) (by exact hHeld) ?_
                      rotate_left
                      · intro w hSw
                        (try dsimp only at hSw)
                        go_simp
                        try with_reducible rfl
                      try simp only [Act.put, List.setIfInBounds_toArray, List.set_cons_zero, List.set_cons_succ]
                      refine wpTill_ready (rs := [2, 10]) (by kernel_rfl) (by simp) ?_
                      refine AllTill.cons (o := ⟨some 67, _, _, _, _, _⟩) rfl (fun K hK => ?_) ?_
                      · go_simp
                        go_at_call 9
                        refine (within_any off 0 400 _ (by omega) (by omega) (by omega) (by omega) (by omega)).mono ?_
                        rw [HO.out]
                        rintro e w' ⟨rfl, hw⟩
                        obtain rfl := hw
                        go_wp2_with fail
                        refine hK.out _ _ (by exact HSof.out _ (by first | exact (Below.refl _ _).drew | exact below_drewN (Below.refl _ _) _ | exact (below_drewN (Below.refl _ _) _).alloc (Nat.le_refl _) _ | exact ((Below.refl _ _).drew).alloc (Nat.le_refl _) _)) (fun hHeld => ?_)
                        clear hK K
                        try simp only [Act.put, List.setIfInBounds_toArray, List.set_cons_zero, List.set_cons_succ]
                        refine wpTill_take0 (i := 3) (oi := ⟨some 68, _, _, _, _, _⟩) (v := ?_) rfl (by kernel_rfl) (fun _ _ _ h => h) (Or.inl ⟨by rfl, ?_⟩) (fun _ => hHeld) ?_
                        rotate_left
                        · intro w hSw
                          (try dsimp only at hSw)
                          go_simp
                          try with_reducible rfl
                        try simp only [Act.put, List.setIfInBounds_toArray, List.set_cons_zero, List.set_cons_succ]
                        refine wpTill_ready (rs := [6, 10]) (by kernel_rfl) (by simp) ?_
                        refine AllTill.cons (o := ⟨some 71, _, _, _, _, _⟩) rfl (fun K hK => ?_) ?_
                        · go_simp
                          go_at_call 8
                          refine (kcut_q od nd cd 40 _ hcd hcd2 (by omega)).mono ?_
                          rw [HDN.out]
                          rintro e w' ⟨rfl, hw⟩
                          obtain rfl := hw
                          go_wp2_with fail
                          refine hK.out _ _ (by exact HSof.out _ (by first | exact (Below.refl _ _).drew | exact below_drewN (Below.refl _ _) _ | exact (below_drewN (Below.refl _ _) _).alloc (Nat.le_refl _) _ | exact ((Below.refl _ _).drew).alloc (Nat.le_refl _) _)) (fun hHeld => ?_)
                          clear hK K
                          try simp only [Act.put, List.setIfInBounds_toArray, List.set_cons_zero, List.set_cons_succ]
                          refine wpTill_take0 (i := 9) (oi := ⟨some 74, _, _, _, _, _⟩) (v := ?_) rfl (by kernel_rfl) (fun _ _ _ h => h) (Or.inl ⟨by rfl, ?_⟩) (fun _ => hHeld) ?_
                          rotate_left
                          · intro w hSw
                            (try dsimp only at hSw)
                            go_simp
                            try with_reducible rfl
                          try simp only [Act.put, List.setIfInBounds_toArray, List.set_cons_zero, List.set_cons_succ]
                          refine wpTill_ready (rs := [10]) (by kernel_rfl) (by simp) ?_
                          refine AllTill.cons (o := ⟨some 13, _, _, _, _, _⟩) rfl (fun K hK => ?_) AllTill.nil
                          go_simp
                          refine hK.out _ _ (by exact HSof.out _ (by first | exact (Below.refl _ _).drew | exact below_drewN (Below.refl _ _) _ | exact (below_drewN (Below.refl _ _) _).alloc (Nat.le_refl _) _ | exact ((Below.refl _ _).drew).alloc (Nat.le_refl _) _)) (fun hHeld => ?_)
                          clear hK K
                          try simp only [Act.put, List.setIfInBounds_toArray, List.set_cons_zero, List.set_cons_succ]
                          refine wpTill_ready (rs := [11]) (by kernel_rfl) (by simp) ?_
                          refine AllTill.cons (o := ⟨none, _, _, _, _, _⟩) rfl (fun K hK => ?_) AllTill.nil
                          rw [if_pos (by kernel_rfl)]
                          refine wp_store_row 35 (.tmp 13) (.tmp 74) rfl _ _ rfl rfl 35 #[.int .i64 0, .int .u64 0, .int .u64 0, .slice none 0 0, .bool false, .int .u64 0, .int .u64 0, .int .u64 0, .int .u64 0, .int .u64 0, .slice none 0 0, .int .u8 0, .int .u8 0, .int .u8 0, .int .u8 0, .int .u8 0, .int .u8 0, .int .u8 0, .int .u8 0] (by exact alloc_at w3.drew _) (by rw [sizeF]; rfl) rfl (by simp [Value.oneCell']) ?_
                          refine hK.out _ _ (by exact HSof.out _ (setRow_below (by first | exact (Below.refl _ _).drew | exact below_drewN (Below.refl _ _) _ | exact (below_drewN (Below.refl _ _) _).alloc (Nat.le_refl _) _ | exact ((Below.refl _ _).drew).alloc (Nat.le_refl _) _) (Nat.le_refl _))) (fun hHeld => ?_)
                          clear hK K
                          try simp only [Act.put, List.setIfInBounds_toArray, List.set_cons_zero, List.set_cons_succ]
                          refine wpTill_done (by kernel_rfl) ?_ _
                          go_wp2_with fail
                          go_meet
                          case rel => exact ⟨_, rfl, Nat.le_refl _, setRow_below (by first | exact (Below.refl _ _).drew | exact below_drewN (Below.refl _ _) _ | exact (below_drewN (Below.refl _ _) _).alloc (Nat.le_refl _) _ | exact ((Below.refl _ _).drew).alloc (Nat.le_refl _) _) (Nat.le_refl _), setRow_heap _ _ #[.int .i64 0, .int .u64 0, .int .u64 0, .slice none 0 0, .bool false, .int .u64 0, .int .u64 0, .int .u64 0, .int .u64 0, .int .u64 0, .slice none 0 0, .int .u8 0, .int .u8 0, .int .u8 0, .int .u8 0, .int .u8 0, .int .u8 0, .int .u8 0, .int .u8 0] _ _ _ (by exact alloc_at w3.drew _)⟩
                        refine AllTill.cons (o := ⟨some 13, _, _, _, _, _⟩) rfl (fun K hK => ?_) ?_
                        · go_simp
                          refine hK.out _ _ (by exact HSof.out _ (by first | exact (Below.refl _ _).drew | exact below_drewN (Below.refl _ _) _ | exact (below_drewN (Below.refl _ _) _).alloc (Nat.le_refl _) _ | exact ((Below.refl _ _).drew).alloc (Nat.le_refl _) _)) (fun hHeld => ?_)
                          clear hK K
                          try simp only [Act.put, List.setIfInBounds_toArray, List.set_cons_zero, List.set_cons_succ]
                          refine wpTill_ready (rs := [6]) (by kernel_rfl) (by simp) ?_
                          refine AllTill.cons (o := ⟨some 71, _, _, _, _, _⟩) rfl (fun K hK => ?_) AllTill.nil
                          go_simp
                          go_at_call 8
                          refine (kcut_q od nd cd 40 _ hcd hcd2 (by omega)).mono ?_
                          rw [HDN.out]
                          rintro e w' ⟨rfl, hw⟩
                          obtain rfl := hw
                          go_wp2_with fail
                          refine hK.out _ _ (by exact HSof.out _ (by first | exact (Below.refl _ _).drew | exact below_drewN (Below.refl _ _) _ | exact (below_drewN (Below.refl _ _) _).alloc (Nat.le_refl _) _ | exact ((Below.refl _ _).drew).alloc (Nat.le_refl _) _)) (fun hHeld => ?_)
                          clear hK K
                          try simp only [Act.put, List.setIfInBounds_toArray, List.set_cons_zero, List.set_cons_succ]
                          refine wpTill_take0 (i := 9) (oi := ⟨some 74, _, _, _, _, _⟩) (v := ?_) rfl (by kernel_rfl) (fun _ _ _ h => h) (Or.inl ⟨by rfl, ?_⟩) (fun _ => hHeld) ?_
                          rotate_left
                          · intro w hSw
                            (try dsimp only at hSw)
                            go_simp
                            try with_reducible rfl
                          try simp only [Act.put, List.setIfInBounds_toArray, List.set_cons_zero, List.set_cons_succ]
                          refine wpTill_ready (rs := [11]) (by kernel_rfl) (by simp) ?_
                          refine AllTill.cons (o := ⟨none, _, _, _, _, _⟩) rfl (fun K hK => ?_) AllTill.nil
                          rw [if_pos (by kernel_rfl)]
                          refine wp_store_row 35 (.tmp 13) (.tmp 74) rfl _ _ rfl rfl 35 #[.int .i64 0, .int .u64 0, .int .u64 0, .slice none 0 0, .bool false, .int .u64 0, .int .u64 0, .int .u64 0, .int .u64 0, .int .u64 0, .slice none 0 0, .int .u8 0, .int .u8 0, .int .u8 0, .int .u8 0, .int .u8 0, .int .u8 0, .int .u8 0, .int .u8 0] (by exact alloc_at w3.drew _) (by rw [sizeF]; rfl) rfl (by simp [Value.oneCell']) ?_
                          refine hK.out _ _ (by exact HSof.out _ (setRow_below (by first | exact (Below.refl _ _).drew | exact below_drewN (Below.refl _ _) _ | exact (below_drewN (Below.refl _ _) _).alloc (Nat.le_refl _) _ | exact ((Below.refl _ _).drew).alloc (Nat.le_refl _) _) (Nat.le_refl _))) (fun hHeld => ?_)
                          clear hK K
                          try simp only [Act.put, List.setIfInBounds_toArray, List.set_cons_zero, List.set_cons_succ]
                          refine wpTill_done (by kernel_rfl) ?_ _
                          go_wp2_with fail
                          go_meet
                          case rel => exact ⟨_, rfl, Nat.le_refl _, setRow_below (by first | exact (Below.refl _ _).drew | exact below_drewN (Below.refl _ _) _ | exact (below_drewN (Below.refl _ _) _).alloc (Nat.le_refl _) _ | exact ((Below.refl _ _).drew).alloc (Nat.le_refl _) _) (Nat.le_refl _), setRow_heap _ _ #[.int .i64 0, .int .u64 0, .int .u64 0, .slice none 0 0, .bool false, .int .u64 0, .int .u64 0, .int .u64 0, .int .u64 0, .int .u64 0, .slice none 0 0, .int .u8 0, .int .u8 0, .int .u8 0, .int .u8 0, .int .u8 0, .int .u8 0, .int .u8 0, .int .u8 0] _ _ _ (by exact alloc_at w3.drew _)⟩
                        exact AllTill.nil
                      refine AllTill.cons (o := ⟨some 13, _, _, _, _, _⟩) rfl (fun K hK => ?_) ?_
                      · go_simp
                        refine hK.out _ _ (by exact HSof.out _ (by first | exact (Below.refl _ _).drew | exact below_drewN (Below.refl _ _) _ | exact (below_drewN (Below.refl _ _) _).alloc (Nat.le_refl _) _ | exact ((Below.refl _ _).drew).alloc (Nat.le_refl _) _)) (fun hHeld => ?_)
                        clear hK K
                        try simp only [Act.put, List.setIfInBounds_toArray, List.set_cons_zero, List.set_cons_succ]
                        refine wpTill_ready (rs := [2]) (by kernel_rfl) (by simp) ?_
                        refine AllTill.cons (o := ⟨some 67, _, _, _, _, _⟩) rfl (fun K hK => ?_) AllTill.nil
                        go_simp
                        go_at_call 9
                        refine (within_any off 0 400 _ (by omega) (by omega) (by omega) (by omega) (by omega)).mono ?_
                        rw [HO.out]
                        rintro e w' ⟨rfl, hw⟩
                        obtain rfl := hw
                        go_wp2_with fail
                        refine hK.out _ _ (by exact HSof.out _ (by first | exact (Below.refl _ _).drew | exact below_drewN (Below.refl _ _) _ | exact (below_drewN (Below.refl _ _) _).alloc (Nat.le_refl _) _ | exact ((Below.refl _ _).drew).alloc (Nat.le_refl _) _)) (fun hHeld => ?_)
                        clear hK K
                        try simp only [Act.put, List.setIfInBounds_toArray, List.set_cons_zero, List.set_cons_succ]
                        refine wpTill_take0 (i := 3) (oi := ⟨some 68, _, _, _, _, _⟩) (v := ?_) rfl (by kernel_rfl) (fun _ _ _ h => h) (Or.inl ⟨by rfl, ?_⟩) (fun _ => hHeld) ?_
                        rotate_left
                        · intro w hSw
                          (try dsimp only at hSw)
                          go_simp
                          try with_reducible rfl
                        try simp only [Act.put, List.setIfInBounds_toArray, List.set_cons_zero, List.set_cons_succ]
                        refine wpTill_ready (rs := [6]) (by kernel_rfl) (by simp) ?_
                        refine AllTill.cons (o := ⟨some 71, _, _, _, _, _⟩) rfl (fun K hK => ?_) AllTill.nil
                        go_simp
                        go_at_call 8
                        refine (kcut_q od nd cd 40 _ hcd hcd2 (by omega)).mono ?_
                        rw [HDN.out]
                        rintro e w' ⟨rfl, hw⟩
                        obtain rfl := hw
                        go_wp2_with fail
                        refine hK.out _ _ (by exact HSof.out _ (by first | exact (Below.refl _ _).drew | exact below_drewN (Below.refl _ _) _ | exact (below_drewN (Below.refl _ _) _).alloc (Nat.le_refl _) _ | exact ((Below.refl _ _).drew).alloc (Nat.le_refl _) _)) (fun hHeld => ?_)
                        clear hK K
                        try simp only [Act.put, List.setIfInBounds_toArray, List.set_cons_zero, List.set_cons_succ]
                        refine wpTill_take0 (i := 9) (oi := ⟨some 74, _, _, _, _, _⟩) (v := ?_) rfl (by kernel_rfl) (fun _ _ _ h => h) (Or.inl ⟨by rfl, ?_⟩) (fun _ => hHeld) ?_
                        rotate_left
                        · intro w hSw
                          (try dsimp only at hSw)
                          go_simp
                          try with_reducible rfl
                        try simp only [Act.put, List.setIfInBounds_toArray, List.set_cons_zero, List.set_cons_succ]
                        refine wpTill_ready (rs := [11]) (by kernel_rfl) (by simp) ?_
                        refine AllTill.cons (o := ⟨none, _, _, _, _, _⟩) rfl (fun K hK => ?_) AllTill.nil
                        rw [if_pos (by kernel_rfl)]
                        refine wp_store_row 35 (.tmp 13) (.tmp 74) rfl _ _ rfl rfl 35 #[.int .i64 0, .int .u64 0, .int .u64 0, .slice none 0 0, .bool false, .int .u64 0, .int .u64 0, .int .u64 0, .int .u64 0, .int .u64 0, .slice none 0 0, .int .u8 0, .int .u8 0, .int .u8 0, .int .u8 0, .int .u8 0, .int .u8 0, .int .u8 0, .int .u8 0] (by exact alloc_at w3.drew _) (by rw [sizeF]; rfl) rfl (by simp [Value.oneCell']) ?_
                        refine hK.out _ _ (by exact HSof.out _ (setRow_below (by first | exact (Below.refl _ _).drew | exact below_drewN (Below.refl _ _) _ | exact (below_drewN (Below.refl _ _) _).alloc (Nat.le_refl _) _ | exact ((Below.refl _ _).drew).alloc (Nat.le_refl _) _) (Nat.le_refl _))) (fun hHeld => ?_)
                        clear hK K
                        try simp only [Act.put, List.setIfInBounds_toArray, List.set_cons_zero, List.set_cons_succ]
                        refine wpTill_done (by kernel_rfl) ?_ _
                        go_wp2_with fail
                        go_meet
                        case rel => exact ⟨_, rfl, Nat.le_refl _, setRow_below (by first | exact (Below.refl _ _).drew | exact below_drewN (Below.refl _ _) _ | exact (below_drewN (Below.refl _ _) _).alloc (Nat.le_refl _) _ | exact ((Below.refl _ _).drew).alloc (Nat.le_refl _) _) (Nat.le_refl _), setRow_heap _ _ #[.int .i64 0, .int .u64 0, .int .u64 0, .slice none 0 0, .bool false, .int .u64 0, .int .u64 0, .int .u64 0, .int .u64 0, .int .u64 0, .slice none 0 0, .int .u8 0, .int .u8 0, .int .u8 0, .int .u8 0, .int .u8 0, .int .u8 0, .int .u8 0, .int .u8 0] _ _ _ (by exact alloc_at w3.drew _)⟩
                      exact AllTill.nil
                  case rest =>
                    obtain ⟨y, rfl, hy, hb4, hky⟩ := hcut
                    have H4 := Lib.hid (H3.out.later hb4)
                    have HKY4 := Lib.hid hky
                    have HY4 := Lib.hid (show ¬ fp y from fun q => by have := H3.out.at_.lt.2 y q; omega)
                    clear hy hb4 hky HSof H3 HKZ3
                    generalize wc = w4 at *
                    obtain ⟨er, her⟩ : ∃ er, s.onErr ⟨8, 3, O, .slice od dn cd, fin, 0, 0, 0, 0, 0, .slice none 0 0, 0, 0, 0, 0, 0, 0, 0, 0⟩ dn = er := ⟨_, rfl⟩
                    obtain ⟨s2, hs2⟩ : ∃ s2, s.on ⟨8, 3, O, .slice od dn cd, fin, 0, 0, 0, 0, 0, .slice none 0 0, 0, 0, 0, 0, 0, 0, 0, 0⟩ D = s2 := ⟨_, rfl⟩
                    have hli := H4.out.li.on (f := ⟨8, 3, O, .slice od dn cd, fin, 0, 0, 0, 0, 0, .slice none 0 0, 0, 0, 0, 0, 0, 0, 0, 0⟩) (d := D) rfl hO2 (by rw [HDL.out]; exact hdn2)
                    rw [HDL.out, her, hs2, HV.out.1] at hli
                    have HLI := Lib.hid hli
                    have HER := Lib.hid her
                    have HS2 := Lib.hid hs2
                    have HDV := Lib.hid ((HDF.out.below H4.out.drew.below).apart H4.out.drew.below.size H4.out.new)
                    clear her hs2 hli
                    go_upto_region 13 with fail
                    go_cut [14] (fun v wx => v = .int .i64 er ∧ ∃ fp5, LimB w wx r q (.pointer (some ⟨m, 0, none⟩)) k s2 fp5 ∧ wx.heap[y]? = some (.cells #[.int .i64 8, .int .u64 3, .int .u64 O, .slice od dn cd, .bool fin, .int .u64 0, .int .u64 0, .int .u64 0, .int .u64 0, .int .u64 0, .slice none 0 0, .int .u8 0, .int .u8 0, .int .u8 0, .int .u8 0, .int .u8 0, .int .u8 0, .int .u8 0, .int .u8 0] 35 (0, 0)))
                    case first =>
                      as_aux_lemma =>
                        go_wp2_with fail
                        refine wp_region_till (S := fun w' => w'.cell? ⟨q, 0, none⟩ = some (.pointer (some ⟨r, 0, none⟩))) [] (by kernel_rfl) (by exact (cell_at H4.out.box 0).trans rfl) (fun hHeld => ?_)
                        refine wpTill_take0 (i := 0) (oi := ⟨some 75, _, _, _, _, _⟩) (v := ?_) rfl (by kernel_rfl) (fun _ _ _ h => h) (Or.inl ⟨by rfl, ?_⟩) (fun _ => hHeld) ?_
                        rotate_left
                        · intro w hSw
                          (try dsimp only at hSw)
                          go_simp
                          try with_reducible rfl
                        try simp only [Act.put, List.setIfInBounds_toArray, List.set_cons_zero, List.set_cons_succ]
                        refine wpTill_take0 (i := 1) (oi := ⟨some 76, _, _, _, _, _⟩) (v := ?_) rfl (by kernel_rfl) (fun _ _ _ h => h) (Or.inl ⟨by rfl, ?_⟩) (fun _ => hHeld) ?_
                        rotate_left
                        · intro w hSw
                          (try dsimp only at hSw)
                          go_simp
                          try with_reducible rfl
                        try simp only [Act.put, List.setIfInBounds_toArray, List.set_cons_zero, List.set_cons_succ]
                        refine wpTill_take0 (i := 2) (oi := ⟨some 77, _, _, _, _, _⟩) (v := ?_) rfl (by kernel_rfl) (fun _ _ _ h => h) (Or.inl ⟨by rfl, ?_⟩) (fun _ => hHeld) ?_
                        rotate_left
                        · intro w hSw
                          (try dsimp only at hSw)
                          go_simp
                          try with_reducible rfl
                        try simp only [Act.put, List.setIfInBounds_toArray, List.set_cons_zero, List.set_cons_succ]
                        refine wpTill_take (i := 3) (oi := ⟨some 78, _, _, _, _, _⟩) (v := ?_) rfl (by kernel_rfl) (fun _ _ _ h => h) (Or.inl ⟨by rfl, ?_⟩) (by exact hHeld) ?_
                        rotate_left
                        · intro w hSw
                          (try dsimp only at hSw)
                          go_simp
                          try with_reducible rfl
                        try simp only [Act.put, List.setIfInBounds_toArray, List.set_cons_zero, List.set_cons_succ]
                        refine wpTill_ready (rs := [4]) (by kernel_rfl) (by simp) ?_
                        refine AllTill.cons (o := ⟨some 79, _, _, _, _, _⟩) rfl (fun K hK => ?_) AllTill.nil
                        rw [if_pos (by kernel_rfl)]
                        refine wp_load_row 35 (.tmp 13) rfl y rfl 35 #[.int .i64 8, .int .u64 3, .int .u64 O, .slice od dn cd, .bool fin, .int .u64 0, .int .u64 0, .int .u64 0, .int .u64 0, .int .u64 0, .slice none 0 0, .int .u8 0, .int .u8 0, .int .u8 0, .int .u8 0, .int .u8 0, .int .u8 0, .int .u8 0, .int .u8 0] (0, 0) _ (by exact HKY4.out) Try.underlying35 rfl (by rw [sizeF]; rfl) ?_
                        refine hK.out _ _ (by exact hHeld) (fun hHeld => ?_)
                        clear hK K
                        try simp only [Act.put, List.setIfInBounds_toArray, List.set_cons_zero, List.set_cons_succ]
                        refine wpTill_ready (rs := [5]) (by kernel_rfl) (by simp) ?_
                        refine AllTill.cons (o := ⟨some 80, _, _, _, _, _⟩) rfl (fun K hK => ?_) AllTill.nil
                        go_simp
                        go_at_call 10
                        refine (ron_any r s fp ⟨8, 3, O, .slice od dn cd, fin, 0, 0, 0, 0, 0, .slice none 0 0, 0, 0, 0, 0, 0, 0, 0, 0⟩ od dn cd D w4.drew (by exact H4.out.at_.below (Below.refl _ _).drew) (by constructor <;> dsimp only <;> omega) rfl (by exact HDV.out) HBY.out HDL.out (by omega)).mono ?_
                        rw [HER.out, HS2.out]
                        rintro e w5 ⟨rfl, hm5⟩
                        obtain ⟨fp5, h5⟩ := (H4.out.drew).went hm5 HLI.out.1
                        have HBX := Lib.hid (cell_at h5.box 0)
                        have H5 := Lib.hid h5
                        have HK5 := Lib.hid (show w5.heap[y]? = _ from by obtain ⟨_, _, hw5⟩ := hm5; exact hw5.upd.keeps (show w4.drew.heap[y]? = _ from HKY4.out) (fun qq => HY4.out qq))
                        clear h5 hm5
                        go_wp2_with fail
                        refine hK.out _ _ (by exact HBX.out.trans rfl) (fun hHeld => ?_)
                        clear hK K
                        try simp only [Act.put, List.setIfInBounds_toArray, List.set_cons_zero, List.set_cons_succ]
                        refine wpTill_take0 (i := 6) (oi := ⟨some 14, _, _, _, _, _⟩) (v := ?_) rfl (by kernel_rfl) (fun _ _ _ h => h) (Or.inl ⟨by rfl, ?_⟩) (fun _ => hHeld) ?_
                        rotate_left
                        · intro w hSw
                          (try dsimp only at hSw)
                          go_simp
                          try with_reducible rfl
                        try simp only [Act.put, List.setIfInBounds_toArray, List.set_cons_zero, List.set_cons_succ]
                        refine wpTill_done (by kernel_rfl) ?_ _
                        go_wp2_with fail
                        go_meet
                        case rel => exact ⟨rfl, _, H5.out, HK5.out⟩
                    case rest =>
                      obtain ⟨rfl, fp5, h5, hk5⟩ := hcut
                      generalize wc = w5 at *
                      have H5 := Lib.hid h5
                      have y2 : w5.cell? ⟨y, 2, none⟩ = some (.int .u64 O) := (cell_at hk5 2).trans rfl
                      have y3 : w5.cell? ⟨y, 3, none⟩ = some (.slice od dn cd) := (cell_at hk5 3).trans rfl
                      have q0 : w5.cell? ⟨q, 0, none⟩ = some (.pointer (some ⟨r, 0, none⟩)) := (cell_at h5.box 0).trans rfl
                      have HLN := Lib.hid (show LimN w w5 r q (.pointer (some ⟨m, 0, none⟩)) k was from ⟨s2, fp5, h5, by rw [HLI.out.2.1]; exact Nat.le_refl _, fun x => by rw [HLI.out.2.1] at x; exact absurd x (Nat.lt_irrefl _)⟩)
                      clear h5 hk5 H4 HKY4 HDV
                      have hwd : IntKind.u64.wrap (dn : Int) = dn := IntWalk.u64_in _ (by omega)
                      obtain ⟨sm, hsm, hsm2⟩ : ∃ sm : Nat, (O : Int) + (dn : Int) = (sm : Int) ∧ O + dn = sm := ⟨O + dn, by omega, rfl⟩
                      have hws : IntKind.u64.wrap (sm : Int) = sm := IntWalk.u64_in _ (by omega)
                      by_cases he : er = 0
                      · subst he
                        have hle : O + dn ≤ was := HLI.out.2.2.1 rfl
                        have hnl : ¬ (was : Int) < (sm : Int) := by omega
                        go_upto_region 14 with fail
                        go_wp2_with fail
                        go_meet
                        case rel => exact HLN.out
                      · have hnei : ¬ (er : Int) = 0 := by omega
                        have hss := HLI.out.2.2.2 he
                        have hhi2 : s2.high = hi := by rw [hss]; exact HV.out.2.2.1
                        have hst2 : s2.st = st := by rw [hss]; exact HV.out.2.1
                        have htk2 : s2.taken = tk := by rw [hss]; exact HV.out.2.2.2
                        have HF2 := Lib.hid (And.intro hhi2 (And.intro hst2 htk2))
                        clear hss hhi2 hst2 htk2
                        go_upto_region 14 with fail
                        go_wp2_with fail
                        refine (rhigh_q r s2 fp5 w5 (by exact H5.out.at_)).mono ?_
                        rw [HF2.out.1]
                        rintro x w6 ⟨rfl, n6, rfl⟩
                        have H6 := Lib.hid (H5.out.later (below_drewN (Below.refl _ _) n6))
                        have q6 : (w5.drewN n6).cell? ⟨q, 0, none⟩ = some (.pointer (some ⟨r, 0, none⟩)) := q0
                        clear q0 y2 y3 H5
                        generalize w5.drewN n6 = w6 at *
                        go_wp2_with fail
                        refine (rstate_q r s2 fp5 w6 (by exact H6.out.at_)).mono ?_
                        rw [HF2.out.2.1]
                        rintro x w7 ⟨rfl, n7, rfl⟩
                        have H7 := Lib.hid (H6.out.later (below_drewN (Below.refl _ _) n7))
                        have q7 : (w6.drewN n7).cell? ⟨q, 0, none⟩ = some (.pointer (some ⟨r, 0, none⟩)) := q6
                        clear q6 H6
                        generalize w6.drewN n7 = w7 at *
                        go_wp2_with fail
                        refine (rtaken_q r s2 fp5 w7 (by exact H7.out.at_)).mono ?_
                        rw [HF2.out.2.2]
                        rintro x w8 ⟨rfl, n8, rfl⟩
                        have HLN8 := Lib.hid (show LimN w (w7.drewN n8) r q (.pointer (some ⟨m, 0, none⟩)) k was from ⟨s2, fp5, H7.out.later (below_drewN (Below.refl _ _) n8), by rw [HLI.out.2.1]; exact Nat.le_refl _, fun x => by rw [HLI.out.2.1] at x; exact absurd x (Nat.lt_irrefl _)⟩)
                        clear q7 H7
                        generalize w7.drewN n8 = w8 at *
                        go_wp2_with fail
                        go_meet
                        case rel => exact HLN8.out
                · have z2 : w3.cell? ⟨z, 2, none⟩ = some (.int .i64 most) := (cell_at HKZ3.out 2).trans rfl
                  have q0 : w3.cell? ⟨q, 0, none⟩ = some (.pointer (some ⟨r, 0, none⟩)) := (cell_at H3.out.box 0).trans rfl
                  by_cases hk7 : kd = 7
                  · subst hk7
                    have hnx := H3.out.li.nx most
                    have HNX := Lib.hid hnx
                    clear hnx
                    go_upto_region 17 with fail
                    go_wp2_with fail
                    go_still_tail 6, (by kernel_rfl)
                    change wpList _ _ _ _ _ w3.drew
                    go_wp2_with fail
                    refine (rnext_max r s fp most w3.drew (by exact H3.out.drew.at_) (by rw [H3.out.li.so]; simp) hmo1 hmo2).mono ?_
                    rintro x w5 ⟨hx, hm⟩
                    generalize Value.tuple #[.agg (encF (s.nx most).2.1).toArray, .bool (s.nx most).2.2] = rv at hx
                    subst hx
                    have HN := Lib.hid (show LimN w w5 r q (.pointer (some ⟨m, 0, none⟩)) k was from by
                      obtain ⟨fp5, h5⟩ := H3.out.drew.went hm HNX.out.1
                      exact ⟨_, fp5, h5, by rw [← HV.out.1]; exact HNX.out.2.1, by rw [← HV.out.1]; exact HNX.out.2.2⟩)
                    clear hm
                    go_wp2_with fail
                    go_meet
                    case rel => exact HN.out
                  · by_cases hs4 : st = 4
                    · have HS4 := Lib.hid hs4
                      clear hs4
                      go_upto_region 18 with fail
                      go_wp2_with fail
                      go_still_tail 6, (by kernel_rfl)
                      change wpList _ _ _ _ _ w3.drew
                      go_wp2_with fail
                      refine (rread_over r s fp most w3.drew (by exact H3.out.drew.at_) (.inl (by rw [HV.out.2.1]; exact HS4.out))).mono ?_
                      rintro x w5 ⟨rfl, n5, rfl⟩
                      have HN := Lib.hid (show LimN w (w3.drew.drewN n5) r q (.pointer (some ⟨m, 0, none⟩)) k was from
                        ⟨s, fp, H3.out.drew.later (below_drewN (Below.refl _ _) n5), by rw [HV.out.1]; exact Nat.le_refl _, fun x => by rw [HV.out.1] at x; exact absurd x (Nat.lt_irrefl _)⟩)
                      generalize w3.drew.drewN n5 = w5 at *
                      go_wp2_with fail
                      go_meet
                      case rel => exact HN.out
                    · go_upto_region 18 with fail
                      go_wp2_with fail
                      go_still_tail 6, (by kernel_rfl)
                      change wpList _ _ _ _ _ w3.drew
                      go_wp2_with fail
                      refine (rread_any r s fp most w3.drew (by exact H3.out.drew.at_) (by rw [HV.out.2.1]; omega) hmo1 hmo2 rfl).mono ?_
                      rintro x w5 ⟨v5, fp5, hx, hr, hw, _⟩
                      generalize (if s.ib.num most = 0 ∧ (s.ib.take (s.ib.num most)).last = false then (26 : Int) else 0) = er5 at hx
                      subst hx
                      have HN := Lib.hid (show LimN w w5 r q (.pointer (some ⟨m, 0, none⟩)) k was from by
                        have htk := H3.out.li.tk (s.ib.num most)
                        obtain ⟨fp5, h5⟩ := H3.out.drew.went ⟨fp5, hr, hw⟩ htk.1
                        exact ⟨_, fp5, h5, by rw [htk.2, HV.out.1]; exact Nat.le_refl _, fun x => by rw [htk.2, HV.out.1] at x; exact absurd x (Nat.lt_irrefl _)⟩)
                      clear hr hw
                      go_wp2_with fail
                      go_meet
                      case rel => exact HN.out
            case rest =>
              obtain ⟨s2, fp2, h4, hw1, hw2⟩ := hcut
              clear H3 HKZ3 z0 HZ3 HZN HV
              generalize wc = w4 at *
              have H4 := Lib.hid h4
              obtain ⟨lim, hlime⟩ : ∃ lim, s2.lim = lim := ⟨_, rfl⟩
              obtain ⟨tk, htke⟩ : ∃ tk, s2.taken = tk := ⟨_, rfl⟩
              obtain ⟨hi, hhie⟩ : ∃ hi, s2.high = hi := ⟨_, rfl⟩
              obtain ⟨tt, htt, htt2⟩ : ∃ tt : Nat, (tk : Int) + (k : Int) = (tt : Int) ∧ tk + k = tt := ⟨tk + k, by omega, rfl⟩
              have htkb : tk ≤ 1099511640000 := by
                rw [← htke]
                exact h4.at_.takb
              have hlmb : lim ≤ 1099511640000 := by rw [← hlime]; exact h4.at_.ok.lim
              have hhil : hi ≤ lim := by
                rw [← hhie, ← hlime, h4.li.high]
                exact h4.li.hi
              rw [hlime] at hw1 hw2
              rw [htke, htt2] at hw2
              have hwtt : IntKind.u64.wrap (tt : Int) = tt := IntWalk.u64_in _ (by omega)
              have q0 : w4.cell? ⟨q, 0, none⟩ = some (.pointer (some ⟨r, 0, none⟩)) := (cell_at h4.box 0).trans rfl
              have hqh := fun n => rhigh_q r s2 fp2 (w4.drewN n) (h4.at_.drewN n)
              have hql := fun n => rlimit_q r s2 fp2 (w4.drewN n) (h4.at_.drewN n)
              have hqt := fun n => rtaken_q r s2 fp2 (w4.drewN n) (h4.at_.drewN n)
              rw [hhie] at hqh
              rw [hlime] at hql
              rw [htke] at hqt
              have HQ := Lib.hid (And.intro hqh (And.intro hql hqt))
              have HLM := Lib.hid hlime
              clear hqh hql hqt hlime htke hhie htt2 h4
              have hc1 : ¬ (lim : Int) < (was : Int) := by omega
              have hc1n : ¬ lim < was := by omega
              have hc2 : ¬ (lim : Int) < (hi : Int) := by omega
              have hc2n : ¬ lim < hi := by omega
              go_upto_region 19 with fail
              go_cut [185] (fun v wx => v = .bool false ∧ ∃ n, wx = w4.drewN n)
              case first =>
                as_aux_lemma =>
                  by_cases hg : tt < lim
                  · have hgi : (tt : Int) < (lim : Int) := by omega
                    have hc3n : ¬ was < lim := by omega
                    have hc3 : ¬ (was : Int) < (lim : Int) := by omega
                    clear hw1 hw2
                    go_quiet (first
                      | (go_at_call 17; exact Calls.quiet_of (HQ.out.1 _))
                      | (go_at_call 16; exact Calls.quiet_of (HQ.out.2.1 _))
                      | (go_at_call 18; exact Calls.quiet_of (HQ.out.2.2 _)))
                    go_wp2_with fail
                    go_meet
                    case rel => exact ⟨rfl, _, rfl⟩
                  · have hgi : ¬ (tt : Int) < (lim : Int) := by omega
                    clear hw1 hw2
                    go_quiet (first
                      | (go_at_call 17; exact Calls.quiet_of (HQ.out.1 _))
                      | (go_at_call 16; exact Calls.quiet_of (HQ.out.2.1 _))
                      | (go_at_call 18; exact Calls.quiet_of (HQ.out.2.2 _)))
                    go_wp2_with fail
                    go_meet
                    case rel => exact ⟨rfl, _, rfl⟩
              case rest =>
                obtain ⟨rfl, n5, rfl⟩ := hcut
                have H5 := Lib.hid (H4.out.later (below_drewN (Below.refl _ _) n5))
                have q5 : (w4.drewN n5).cell? ⟨q, 0, none⟩ = some (.pointer (some ⟨r, 0, none⟩)) := q0
                clear q0 HQ H4
                generalize w4.drewN n5 = w5 at *
                go_wp2_with fail
                refine (rlimit_q r s2 fp2 w5 (by exact H5.out.at_)).mono ?_
                rw [HLM.out]
                rintro x w6 ⟨rfl, n6, rfl⟩
                have H6 := Lib.hid (H5.out.later (below_drewN (Below.refl _ _) n6))
                generalize w5.drewN n6 = w6 at *
                clear q5 H5
                go_wp2_with fail
                go_roundw
                case rel => exact ⟨j + 1, s2, fp2, by go_num, by omega, by rw [HLM.out], H6.out⟩
                case measure => simp [intOf]; omega
      · go_wp2_with fail
        refine (rknown_any _).mono ?_
        rintro x w5 ⟨rfl, hb⟩
        have HB := Lib.hid (below_call H.out.below H.out.below.size hb)
        clear hb
        go_wp2_with fail
        go_ret
        exact ⟨rfl, HB.out⟩
    · go_wp2_with fail
      refine (rknown_any _).mono ?_
      rintro x w5 ⟨rfl, hb⟩
      have HB := Lib.hid (below_call H.out.below H.out.below.size hb)
      clear hb
      go_wp2_with fail
      go_ret
      exact ⟨rfl, HB.out⟩
end Go.Proofs.Ytebiebcpdjipjaa

namespace Go.Proofs.Ytebiebcpdjipjaa
open Go.ChangeShapes Go.WideShapes Go.ChangeAt Go.RowKit

theorem cells_int : Try.prog.cellsOf 3 = 1 := by kernel_rfl
theorem cells_u8 : Try.prog.cellsOf 5 = 1 := by kernel_rfl
theorem cells_bool : Try.prog.cellsOf 4 = 1 := by kernel_rfl
theorem cells_u64 : Try.prog.cellsOf 24 = 1 := by kernel_rfl
theorem cells_bytes : Try.prog.cellsOf 22 = 1 := by kernel_rfl
theorem cells_u64s : Try.prog.cellsOf 50 = 1 := by kernel_rfl
theorem cells_F : Try.prog.cellsOf 52 = 8 := by kernel_rfl
theorem cells_ask : Try.prog.cellsOf 54 = 15 := by kernel_rfl
theorem len8 {l : List Value} (h : l.length = 8) : ∃ a b c d e f g i, l = [a, b, c, d, e, f, g, i] := by
  match l, h with
  | [a, b, c, d, e, f, g, i], _ => exact ⟨a, b, c, d, e, f, g, i, rfl⟩
theorem len15 {l : List Value} (h : l.length = 15) : ∃ a b c d e f g i j k m n o p q, l = [a, b, c, d, e, f, g, i, j, k, m, n, o, p, q] := by
  match l, h with
  | [a, b, c, d, e, f, g, i, j, k, m, n, o, p, q], _ => exact ⟨a, b, c, d, e, f, g, i, j, k, m, n, o, p, q, rfl⟩
set_option maxRecDepth 100000 in
theorem u64_el {H : Type} {enc : TypeId × Value → H} {W : World} (cs : List Value) (d : DataW H) (_ : cs.length = Try.prog.cellsOf 24) (h : Reads enc Try.prog W (fun _ => true) true 24 cs d) : ∃ a : Nat, cs = encU a ∧ a < 18446744073709551616 := by
  obtain ⟨n, rfl, _, h2⟩ := h.int Try.underlying24
  have := u64_bd h2
  exact ⟨n.toNat, by rw [encU, show ((n.toNat : Nat) : Int) = n by omega], by omega⟩
set_option maxRecDepth 100000 in
theorem u64s_el {H : Type} {enc : TypeId × Value → H} {W : World} {cs : List Value} {d : DataW H} (h : Reads enc Try.prog W (fun _ => true) true 50 cs d) : ∃ a : Value, cs = [a] ∧ ∃ L, Vw encU W W.heap.size a L ∧ ∀ x ∈ L, x < 18446744073709551616 := by
  obtain ⟨oa, len, cap, D, spl, rfl, hS, _⟩ := h.slice Try.underlying50 (by rw [cells_u64]; omega)
  obtain ⟨L, h1, h2, h3⟩ := sliceIs_vw hS encU (· < 18446744073709551616) 0 (fun a => by rw [encU_len, cells_u64]) u64_el
  exact ⟨_, rfl, L, h2, h3⟩
set_option maxRecDepth 100000 in
theorem ask_el {H : Type} {enc : TypeId × Value → H} {W : World} (cs : List Value) (d : DataW H) (hl : cs.length = Try.prog.cellsOf 54) (h : Reads enc Try.prog W (fun _ => true) true 54 cs d) :
    ∃ a : AkR, cs = encK a ∧ AkROk W W.heap.size a := by
  rw [cells_ask] at hl
  obtain ⟨c0, c1, c2, c3, c4, c5, c6, c7, c8, c9, c10, c11, c12, c13, c14, rfl⟩ := len15 hl
  obtain ⟨_, D', _, hf⟩ := h.fields Try.underlying54
  obtain ⟨z0, e0, _, w0⟩ := (hf 0 _ rfl).int Try.underlying3
  obtain ⟨z1, e1, _, w1⟩ := (hf 1 _ rfl).int Try.underlying3
  obtain ⟨z2, e2, _, w2⟩ := (hf 2 _ rfl).int Try.underlying3
  obtain ⟨z3, e3, _, w3⟩ := (hf 3 _ rfl).int Try.underlying3
  obtain ⟨z4, e4, _, w4⟩ := (hf 4 _ rfl).int Try.underlying24
  obtain ⟨z5, e5, _⟩ := (hf 5 _ rfl).bool Try.underlying4
  obtain ⟨v6, L6, e6, hv6, hb6⟩ := bytes_read Try.underlying22 Try.underlying5 cells_u8 (hf 6 _ rfl)
  have hF := hf 7 _ rfl
  simp [cells_int, cells_bool, cells_u64, cells_bytes, cells_F] at e0 e1 e2 e3 e4 e5 e6 hF
  obtain ⟨_, D2, _, hg⟩ := hF.fields Try.underlying52
  obtain ⟨y0, g0, _, x0⟩ := (hg 0 _ rfl).int Try.underlying3
  obtain ⟨y1, g1, _, x1⟩ := (hg 1 _ rfl).int Try.underlying24
  obtain ⟨y2, g2, _, x2⟩ := (hg 2 _ rfl).int Try.underlying24
  obtain ⟨y3, g3, _, x3⟩ := (hg 3 _ rfl).int Try.underlying24
  obtain ⟨v4, L4, g4, hv4, hb4⟩ := bytes_read Try.underlying22 Try.underlying5 cells_u8 (hg 4 _ rfl)
  obtain ⟨y5, g5, _⟩ := (hg 5 _ rfl).bool Try.underlying4
  obtain ⟨v6', g6, L6', hv6', hb6'⟩ := u64s_el (hg 6 _ rfl)
  obtain ⟨y7, g7, _, x7⟩ := (hg 7 _ rfl).int Try.underlying3
  simp [cells_int, cells_bool, cells_u64, cells_bytes, cells_u64s] at g0 g1 g2 g3 g4 g5 g6 g7
  subst e0 e1 e2 e3 e4 e5 e6 g0 g1 g2 g3 g4 g5 g6 g7
  have b4 := u64_bd w4
  have b8 := u64_bd x1
  have b9 := u64_bd x2
  have b10 := u64_bd x3
  refine ⟨⟨z0, z1, z2, z3, z4.toNat, z5, c6, y0, y1.toNat, y2.toNat, y3.toNat, c11, y5, c13, y7⟩, ?_, ?_⟩
  · rw [encK, show ((z4.toNat : Nat) : Int) = z4 by omega, show ((y1.toNat : Nat) : Int) = y1 by omega, show ((y2.toNat : Nat) : Int) = y2 by omega, show ((y3.toNat : Nat) : Int) = y3 by omega]
  · exact ⟨i64_bd w0, i64_bd w1, i64_bd w2, i64_bd w3, by show z4.toNat < _; omega, ⟨L6, hv6, hb6⟩, i64_bd x0, by show y1.toNat < _; omega, by show y2.toNat < _; omega, by show y3.toNat < _; omega, ⟨L4, hv4, hb4⟩, ⟨L6', hv6', hb6'⟩, i64_bd x7⟩
set_option maxRecDepth 100000 in
theorem asks_came {H : Type} {enc : TypeId × Value → H} {W : World} {base : Nat} {v : Value} {d : DataW H} {ps : List MemPlace}
    (hval : Value.okWide Try.prog W .any base 42 v) (h : DataW.Trod enc Try.prog W 0 (fun _ => true) true 42 v d ps) (hw : (DataW.weights Try.prog 42 d).all (· ≤ reachBytes) = true) :
    ∃ L : List AkR, Vw encK W W.heap.size v L ∧ ∀ a ∈ L, AkROk W W.heap.size a := by
  obtain ⟨oa, len, cap, L, rfl, h1, h2, h3, h4, h5⟩ := vw_came Try.underlying42 (by rw [cells_ask]; omega) hval h hw encK (AkROk W W.heap.size) ⟨0, 0, 0, 0, 0, false, .slice none 0 0, 0, 0, 0, 0, .slice none 0 0, false, .slice none 0 0, 0⟩ (fun a => by rw [encK_len, cells_ask]) ask_el
  exact ⟨L, h4, h5⟩

set_option maxRecDepth 100000 in
theorem receiverLimits_lifted (os : Os) (started : os.Started) (H : Type) (enc : TypeId × Value → H) :
    ReturnsInHanded {} Try.checked os 4 .any (Rows.receiverLimitsSpec.pre6 enc Try.prog Try.f4 [] false)
      (Rows.receiverLimitsSpec.post enc Try.prog Try.f4 false true false false) := by
  refine law_frame started enc Try.func4 (by kernel_rfl) rfl ?_ (by kernel_rfl) (by kernel_rfl) ?_
    (ChangeSpec.witness6 (enc := enc) (C := Try.checked) false ⟨#[], #[.int .u64 0, .slice none 0 0], []⟩ 8 (by kernel_rfl) (by kernel_rfl) (by kernel_rfl) (by kernel_rfl)) ?_
  · intro ds hl
    rw [Try.params4] at hl
    match ds, hl with
    | [d1, d2], _ => rfl
  · rw [Try.params4]
    intro t ht
    simp only [List.mem_cons, List.not_mem_nil, or_false] at ht
    rcases ht with rfl | rfl
    all_goals exact ⟨by kernel_rfl, of_decide_eq_true (by kernel_rfl)⟩
  · intro W base args ds ps hval hA hlt hfz hw
    rw [Try.params4] at hA hval hw
    obtain ⟨v0, v1, d0, d1, p0, p1, hv, rfl, _, h0, h1⟩ := trodAll_two hA
    subst hv
    obtain ⟨w0, w1⟩ := weights_two hw
    obtain ⟨n, rfl, hn⟩ := int_came Try.underlying24 (hval 0 _ v0 rfl rfl) h0
    have hn := u64_bd hn
    obtain ⟨m, rfl⟩ : ∃ m : Nat, n = (m : Int) := ⟨n.toNat, by omega⟩
    obtain ⟨L, hL, hLo⟩ := asks_came (hval 1 _ v1 rfl rfl) h1 w1
    exact limits_walk m v1 L W (by omega) hL hLo

set_option maxRecDepth 100000 in
theorem receiverLimits_holds : Rows.ReceiverLimitsSaid :=
  OpenClaim.holds_of_wide 4 Try.f4 rfl rfl rfl rfl rfl rfl rfl ⟨rfl, rfl, rfl, rfl, rfl⟩ rfl rfl rfl rfl rfl (by kernel_rfl) Try.func4 (by kernel_rfl)
    (of_decide_eq_true (by kernel_rfl)) (by unfold Func.isWrapper; first | (rw [if_pos (by decide +kernel)]; kernel_rfl) | (rw [if_neg (by decide +kernel)]; exact ⟨rfl, rfl⟩))
    (fun os started H enc _ => receiverLimits_lifted os started H enc)
#print axioms receiverLimits_holds
end Go.Proofs.Ytebiebcpdjipjaa
