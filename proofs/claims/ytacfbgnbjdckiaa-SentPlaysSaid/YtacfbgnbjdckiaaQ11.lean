/- DERIVED. What do answers: Ack of one range (printed by mksqdo2.py). -/
import Derived.Test.YtacfbgnbjdckiaaQ10
namespace Go.Proofs.Ytacfbgnbjdckiaa
open Go.RowKit

set_option maxRecDepth 100000 in
set_option maxHeartbeats 4000000 in
theorem do_ack5 {W : World} (b c : Nat) (s d : LS) (fp fq : Nat → Prop) (sk sz : Int) (asks : Bool) (tm : Int) (fr : Nat) (vrows : Value) (pn : Nat) (pt pz : Int) (pa : Bool) (pfa : Option Addr) (pfl pfc : Nat) (vr : Value) (w : World) (h : Two W w b c s d fp fq) (hs : s.core = d.core)
    (ha : AkSOk W W.heap.size ⟨5, sk, sz, asks, tm, fr, vrows, pn, pt, pz, pa, pfa, pfl, pfc, vr⟩) :
    Calls Try.prog 18 #[.pointer (some ⟨b, 0, none⟩), .pointer (some ⟨c, 0, none⟩), .agg #[.int .i64 5, .int .i64 sk, .int .i64 sz, .bool asks, .int .i64 tm, .int .u64 fr, vrows, .int .u64 pn, .int .i64 pt, .int .i64 pz, .bool pa, .slice pfa pfl pfc, vr]] w (DoPost W b c) := by
  have H := Lib.hid h
  have HSIM := Lib.hid hs
  have HA := Lib.hid (ha.below h.below)
  have hfr := ha.fr
  have hW := h.below.size
  obtain ⟨nx, hnx⟩ : ∃ nx, s.nx = nx := ⟨_, rfl⟩
  have hnx2 : d.nx = nx := by rw [← (LS.core_eq hs).2.1]; exact hnx
  have hnxb : nx ≤ 4611686018427387904 := by rw [← hnx]; exact h.p.ok.nx
  have HNX := Lib.hid (And.intro hnx hnx2)
  obtain ⟨hsk1, hsk2⟩ := ha.sk
  obtain ⟨hsz1, hsz2⟩ := ha.sz
  obtain ⟨htm1, htm2⟩ := ha.tm
  obtain ⟨hpt1, hpt2⟩ := ha.pt
  obtain ⟨hpz1, hpz2⟩ := ha.pz
  have hpn := ha.pn
  simp only at hfr hsk1 hsk2 hsz1 hsz2 htm1 htm2 hpt1 hpt2 hpz1 hpz2 hpn
  obtain ⟨rs0, hvr, hrs0⟩ := ha.rg
  obtain ⟨xs, hxs, hxsb⟩ := ha.rows
  have HVR := Lib.hid (And.intro (hvr.below h.below) hrs0)
  have HXS := Lib.hid (And.intro (hxs.below h.below) hxsb)
  clear h hs ha hnx hnx2 hvr hrs0 hxs hxsb
  go_enter Try.func18, Try.ntmps18
  go_upto_region 0 with fail
  go_cut [5, 6] (fun v f wx => ∃ z, v = .pointer (some ⟨z, 0, none⟩) ∧ f = .bool false ∧ w.heap.size ≤ z ∧ Below w.heap.size w wx ∧ wx.heap[z]? = some (.cells #[.int .i64 5, .int .i64 sk, .int .i64 sz, .bool asks, .int .i64 tm, .int .u64 fr, vrows, .int .u64 pn, .int .i64 pt, .int .i64 pz, .bool pa, .slice pfa pfl pfc, vr] 56 (0, 0)))
  case first =>
    go_wp2_with fail
    go_meet
    case rel => exact ⟨_, rfl, rfl, Nat.le_refl _, (Below.refl _ _).alloc (Nat.le_refl _) _, alloc_at _ _⟩
  case rest =>
  obtain ⟨z, rfl, rfl, hz, hb, hkz⟩ := hcut
  have H1 := Lib.hid (H.out.later hb)
  have HKZ := Lib.hid hkz
  have HZ := Lib.hid (show ¬ fp z ∧ ¬ fq z from ⟨fun q => by have := H.out.p.lt.2 z q; omega, fun q => by have := H.out.d.lt.2 z q; omega⟩)
  have HB := Lib.hid hb
  have hzl := heap_lt hkz
  have hbs := hb.size
  have hcz : ¬ c = z := by have := H.out.d.lt.2 c H.out.d.lt.1; omega
  have hzc : ¬ z = c := fun e => hcz e.symm
  have z0 := (cell_at hkz 0).trans (by rfl : _ = some (Value.int .i64 5))
  have c1 : wc.cell? ⟨c, 1, none⟩ = some (.int .u64 nx) := by rw [H1.out.d.cells.1, HNX.out.2]
  clear hb hkz
  generalize wc = w1 at *
  obtain ⟨n2, hn2, hn2p⟩ : ∃ n2 : Nat, (nx : Int) + 2 = (n2 : Int) ∧ nx + 2 = n2 := ⟨nx + 2, by omega, rfl⟩
  have hwn2 : IntKind.u64.wrap (n2 : Int) = n2 := IntWalk.u64_in _ (by omega)
  have hn20 : ¬ (n2 : Int) = 0 := by omega
  have hn20n : ¬ n2 = 0 := by omega
  obtain ⟨f, hf, hfb⟩ : ∃ f : Nat, (fr : Int).tmod (n2 : Int) = (f : Int) ∧ f < n2 := ⟨fr % n2, by rw [Int.tmod_eq_emod_of_nonneg (by omega)]; omega, Nat.mod_lt _ (by omega)⟩
  have hwf : IntKind.u64.wrap (f : Int) = f := IntWalk.u64_in _ (by omega)
  have z5 := (cell_at HKZ.out 5).trans (by rfl : _ = some (Value.int .u64 fr))
  have z6 := (cell_at HKZ.out 6).trans (by rfl : _ = some vrows)
  have HSof := Lib.hid (show ∀ W, Below w1.heap.size w1 W → W.cell? ⟨z, 6, none⟩ = some vrows ∧ W.cell? ⟨z, 5, none⟩ = some (.int .u64 fr) ∧ W.cell? ⟨c, 1, none⟩ = some (.int .u64 nx) from fun W hb => ⟨cell_keep hb (heap_lt HKZ.out) z6, cell_keep hb (heap_lt HKZ.out) z5, cell_keep hb (H1.out.d.lt.2 c H1.out.d.lt.1) c1⟩)
  go_upto_region 11 with fail
  go_cut [7] (fun v wx => ∃ og, SlG encR 37 wx v og (kRngs xs f) ∧ (∀ g, og = some g → w1.heap.size ≤ g) ∧ Below w1.heap.size w1 wx)
  case first =>
    go_wp2_with fail
    refine wp_region_till (S := fun w' => w'.cell? ⟨z, 6, none⟩ = some vrows ∧ w'.cell? ⟨z, 5, none⟩ = some (.int .u64 fr) ∧ w'.cell? ⟨c, 1, none⟩ = some (.int .u64 nx)) [] (by kernel_rfl) (by exact HSof.out _ ((Below.refl _ _).drew)) (fun hHeld => ?_)
    refine wpTill_take0 (i := 0) (oi := ⟨some 57, _, _, _, _, _⟩) (v := ?_) rfl (by kernel_rfl) (fun _ _ _ h => h) (Or.inl ⟨by rfl, ?_⟩) (fun _ => hHeld) ?_
    rotate_left
    · intro w hSw
      (try dsimp only at hSw)
      go_simp
      try with_reducible rfl
    try simp only [Act.put, List.setIfInBounds_toArray, List.set_cons_zero, List.set_cons_succ]
    refine wpTill_take (i := 1) (oi := ⟨some 58, _, _, _, _, _⟩) (v := ?_) rfl (by kernel_rfl) (fun _ _ _ h => h) (Or.inl ⟨by rfl, ?_⟩) (by exact hHeld) ?_
    rotate_left
    · intro w hSw
      (try dsimp only at hSw)
      go_simp
      try with_reducible rfl
    try simp only [Act.put, List.setIfInBounds_toArray, List.set_cons_zero, List.set_cons_succ]
    refine wpTill_take0 (i := 2) (oi := ⟨some 59, _, _, _, _, _⟩) (v := ?_) rfl (by kernel_rfl) (fun _ _ _ h => h) (Or.inl ⟨by rfl, ?_⟩) (fun _ => hHeld) ?_
    rotate_left
    · intro w hSw
      (try dsimp only at hSw)
      go_simp
      try with_reducible rfl
    try simp only [Act.put, List.setIfInBounds_toArray, List.set_cons_zero, List.set_cons_succ]
    refine wpTill_take (i := 3) (oi := ⟨some 60, _, _, _, _, _⟩) (v := ?_) rfl (by kernel_rfl) (fun _ _ _ h => h) (Or.inl ⟨by rfl, ?_⟩) (by exact hHeld) ?_
    rotate_left
    · intro w hSw
      (try dsimp only at hSw)
      go_simp
      try with_reducible rfl
    try simp only [Act.put, List.setIfInBounds_toArray, List.set_cons_zero, List.set_cons_succ]
    refine wpTill_take0 (i := 4) (oi := ⟨some 61, _, _, _, _, _⟩) (v := ?_) rfl (by kernel_rfl) (fun _ _ _ h => h) (Or.inl ⟨by rfl, ?_⟩) (fun _ => hHeld) ?_
    rotate_left
    · intro w hSw
      (try dsimp only at hSw)
      go_simp
      try with_reducible rfl
    try simp only [Act.put, List.setIfInBounds_toArray, List.set_cons_zero, List.set_cons_succ]
    refine wpTill_take0 (i := 5) (oi := ⟨some 62, _, _, _, _, _⟩) (v := ?_) rfl (by kernel_rfl) (fun _ _ _ h => h) (Or.inl ⟨by rfl, ?_⟩) (fun _ => hHeld) ?_
    rotate_left
    · intro w hSw
      (try dsimp only at hSw)
      go_simp
      try with_reducible rfl
    try simp only [Act.put, List.setIfInBounds_toArray, List.set_cons_zero, List.set_cons_succ]
    refine wpTill_take0 (i := 6) (oi := ⟨some 63, _, _, _, _, _⟩) (v := ?_) rfl (by kernel_rfl) (fun _ _ _ h => h) (Or.inl ⟨by rfl, ?_⟩) (fun _ => hHeld) ?_
    rotate_left
    · intro w hSw
      (try dsimp only at hSw)
      go_simp
      try with_reducible rfl
    try simp only [Act.put, List.setIfInBounds_toArray, List.set_cons_zero, List.set_cons_succ]
    refine wpTill_take (i := 7) (oi := ⟨some 64, _, _, _, _, _⟩) (v := ?_) rfl (by kernel_rfl) (fun _ _ _ h => h) (Or.inl ⟨by rfl, ?_⟩) (by exact hHeld) ?_
    rotate_left
    · intro w hSw
      (try dsimp only at hSw)
      go_simp
      try with_reducible rfl
    try simp only [Act.put, List.setIfInBounds_toArray, List.set_cons_zero, List.set_cons_succ]
    refine wpTill_take0 (i := 8) (oi := ⟨some 65, _, _, _, _, _⟩) (v := ?_) rfl (by kernel_rfl) (fun _ _ _ h => h) (Or.inl ⟨by rfl, ?_⟩) (fun _ => hHeld) ?_
    rotate_left
    · intro w hSw
      (try dsimp only at hSw)
      go_simp
      try with_reducible rfl
    try simp only [Act.put, List.setIfInBounds_toArray, List.set_cons_zero, List.set_cons_succ]
    refine wpTill_take0 (i := 9) (oi := ⟨some 66, _, _, _, _, _⟩) (v := ?_) rfl (by kernel_rfl) (fun _ _ _ h => h) (Or.inl ⟨by rfl, ?_⟩) (fun _ => hHeld) ?_
    rotate_left
    · intro w hSw
      (try dsimp only at hSw)
      go_simp
      try with_reducible rfl
    try simp only [Act.put, List.setIfInBounds_toArray, List.set_cons_zero, List.set_cons_succ]
    refine wpTill_ready (rs := [10]) (by kernel_rfl) (by simp) ?_
    refine AllTill.cons (o := ⟨some 67, _, _, _, _, _⟩) rfl (fun K hK => ?_) AllTill.nil
    go_simp
    go_at_call 9
    refine (krng_any vrows xs f _ (by exact (HXS.out.1.below (HB.out.drew.mono hW)).mono (Nat.le_trans hW HB.out.drew.size)) HXS.out.2 (by omega)).mono ?_
    rintro e w2 ⟨v2, og, rfl, hs, hg, hb⟩
    have HR := Lib.hid (And.intro hs (And.intro hg hb))
    clear hs hg hb
    go_wp2_with fail
    refine hK.out _ _ (by exact HSof.out _ ((Below.refl _ _).drew.trans HR.out.2.2)) (fun hHeld => ?_)
    clear hK K
    try simp only [Act.put, List.setIfInBounds_toArray, List.set_cons_zero, List.set_cons_succ]
    refine wpTill_take0 (i := 11) (oi := ⟨some 7, _, _, _, _, _⟩) (v := ?_) rfl (by kernel_rfl) (fun _ _ _ h => h) (Or.inl ⟨by rfl, ?_⟩) (fun _ => hHeld) ?_
    rotate_left
    · intro w hSw
      (try dsimp only at hSw)
      go_simp
      try with_reducible rfl
    try simp only [Act.put, List.setIfInBounds_toArray, List.set_cons_zero, List.set_cons_succ]
    refine wpTill_done (by kernel_rfl) ?_ _
    go_wp2_with fail
    go_meet
    case rel => exact ⟨og, HR.out.1, fun g e => HR.out.2.1 g e, (Below.refl _ _).drew.trans HR.out.2.2⟩
  case rest =>
  obtain ⟨og, hsr, hgr, hbr⟩ := hcut
  have H2 := Lib.hid (H1.out.later hbr)
  have HKZ2 := Lib.hid (below_keeps hbr HKZ.out (heap_lt HKZ.out))
  have HB2 := Lib.hid (below_call HB.out HB.out.size hbr)
  have HSR := Lib.hid hsr
  have HGR := Lib.hid (show ∀ g, og = some g → ¬ (fp g ∨ g = c) from fun g e q => by
    have h1 := hgr g e
    rcases q with q | q
    · have := H1.out.p.lt.2 g q
      omega
    · have := H1.out.d.lt.2 c H1.out.d.lt.1
      omega)
  have z0 := (cell_at HKZ2.out 0).trans (by rfl : _ = some (Value.int .i64 5))
  have c1 : wc.cell? ⟨c, 1, none⟩ = some (.int .u64 nx) := by rw [H2.out.d.cells.1, HNX.out.2]
  clear hsr hgr hbr z5 z6 H1 HKZ HSof
  generalize wc = w2 at *
  by_cases hpos : nx = 0
  · have hposi : ¬ (0 : Int) < (nx : Int) := by omega
    have hposn : ¬ 0 < nx := by omega
    have HVA := Lib.hid (HSR.out.vwa (fp := fun j => fp j ∨ j = c) (fun g e => HGR.out g e))
    have HRL := Lib.hid (And.intro (kRngs_len xs f) (kRngs_bd xs f (by omega)))
    go_wp2_with fail
    refine (lack_any b s fp _ (kRngs xs f) _ (by exact H2.out.p) (by exact vwa_vw HVA.out) (Nat.le_refl _) HRL.out.1 HRL.out.2).mono ?_
    rintro e w3 ⟨v1, o1, v2, o2, rfl, hs1, hs2, hg1, hg2, hm⟩
    obtain ⟨fp3, h3⟩ := H2.out.goP hm
    have H3 := Lib.hid h3
    have HVA3 := Lib.hid (HVA.out.upd hm.upd (fun k hk => .inl hk))
    have HS1 := Lib.hid hs1
    have HS2 := Lib.hid hs2
    have HG := Lib.hid (And.intro hg1 hg2)
    have HLT := Lib.hid H2.out.d.lt.2
    have HLEN := Lib.hid (ack_len H2.out.p.ok (kRngs xs f))
    clear hs1 hs2 hg1 hg2 hm h3
    go_wp2_with fail
    refine (dack_any c d fq _ (kRngs xs f) _ (by exact H3.out.d) (fun w5 hu => vwa_vw (HVA3.out.upd hu (fun k hk => .inr hk))) HRL.out.1 HRL.out.2).mono ?_
    rintro e w4 ⟨v3, o3, v4, o4, rfl, hs3, hs4, hg3, hg4, hm⟩
    obtain ⟨fq4, h4⟩ := H3.out.goD hm
    have H4 := Lib.hid (show Two W w4 b c (s.ackS (kRngs xs f)) (d.ackS (kRngs xs f)) fp3 fq4 from h4)
    have HS14 := Lib.hid (HS1.out.keeps hm.upd (fun g e q => by have := HG.out.1 g e; have := HLT.out g q; omega))
    have HS24 := Lib.hid (HS2.out.keeps hm.upd (fun g e q => by have := HG.out.2 g e; have := HLT.out g q; omega))
    have HS3 := Lib.hid hs3
    have HS4 := Lib.hid hs4
    have HER := Lib.hid (sim_ackErr HSIM.out (kRngs xs f))
    obtain ⟨er, her⟩ : ∃ er, d.ackErr (kRngs xs f) = er := ⟨_, rfl⟩
    rw [HER.out, her]
    clear her
    clear hs3 hs4 hg3 hg4 hm h4
    go_wp2_with fail
    refine (packs_eq v1 v3 _ _ _ (by exact HS14.out.vw) (by exact HS3.out.vw) (sim_ack1 HSIM.out (kRngs xs f)) HLEN.out.1).mono ?_
    rintro e w5 ⟨rfl, n5, rfl⟩
    go_wp2_with fail
    refine (packs_eq v2 v4 _ _ _ (by exact (HS24.out.drewN n5).vw) (by exact (HS4.out.drewN n5).vw) (sim_ack2 HSIM.out (kRngs xs f)) HLEN.out.2).mono ?_
    rintro e w6 ⟨rfl, n6, rfl⟩
    have H6 := Lib.hid (H4.out.later (below_drewN (below_drewN (Below.refl _ _) n5) n6))
    generalize (w4.drewN n5).drewN n6 = w6 at *
    go_wp2_with fail
    refine (same_two b c _ _ fp3 fq4 _ (by exact H6.out) (sim_ackS HSIM.out (kRngs xs f))).mono ?_
    rintro e w7 ⟨rfl, h7⟩
    have H7 := Lib.hid h7
    clear h7
    go_wp2_with fail
    go_ret
    exact ⟨rfl, _, _, _, _, H7.out, sim_ackS HSIM.out (kRngs xs f)⟩
  · have hposi : (0 : Int) < (nx : Int) := by omega
    have hnz : ¬ (nx : Int) = 0 := by omega
    obtain ⟨n, hn, hnb⟩ : ∃ n : Nat, (fr : Int).tmod (nx : Int) = (n : Int) ∧ n < nx := ⟨fr % nx, by rw [Int.tmod_eq_emod_of_nonneg (by omega)]; omega, Nat.mod_lt _ (by omega)⟩
    have hwn : IntKind.u64.wrap (n : Int) = n := IntWalk.u64_in _ (by omega)
    have z5 := (cell_at HKZ2.out 5).trans (by rfl : _ = some (Value.int .u64 fr))
    go_upto_region 17 with fail
    go_cut [8] (fun v wx => v = .int .u64 n ∧ ∃ q, wx = w2.drewN q)
    case first =>
      go_wp2_with fail
      go_quiet (fail)
      go_wp2_with fail
      go_meet
      case rel => exact ⟨rfl, _, rfl⟩
    case rest =>
    obtain ⟨rfl, q, rfl⟩ := hcut
    have H3 := Lib.hid (H2.out.later (below_drewN (Below.refl _ _) q))
    have HKZ3 := Lib.hid (show (w2.drewN q).heap[z]? = _ from HKZ2.out)
    have z5 : (w2.drewN q).cell? ⟨z, 5, none⟩ = _ := z5
    have c1 : (w2.drewN q).cell? ⟨c, 1, none⟩ = _ := c1
    clear z0 H2 HKZ2 HSR HGR HB2
    generalize w2.drewN q = w2 at *
    obtain ⟨n1, hn1, hn1p⟩ : ∃ n1 : Nat, (n : Int) + 1 = (n1 : Int) ∧ n + 1 = n1 := ⟨n + 1, by omega, rfl⟩
    have hwn1 : IntKind.u64.wrap (n1 : Int) = n1 := IntWalk.u64_in _ (by omega)
    obtain ⟨q7, hq7, hq7b⟩ : ∃ q7 : Nat, (fr : Int).tdiv 7 = (q7 : Int) ∧ q7 < 18446744073709551616 := ⟨fr / 7, by rw [Int.tdiv_eq_ediv_of_nonneg (by omega)]; omega, by omega⟩
    have hwq7 : IntKind.u64.wrap (q7 : Int) = q7 := IntWalk.u64_in _ (by omega)
    obtain ⟨m, hm, hmp⟩ : ∃ m : Nat, (nx : Int) - (n : Int) = (m : Int) ∧ n + m = nx := ⟨nx - n, by omega, by omega⟩
    have hwm : IntKind.u64.wrap (m : Int) = m := IntWalk.u64_in _ (by omega)
    have hmz : ¬ (m : Int) = 0 := by omega
    have hmzn : ¬ m = 0 := by omega
    obtain ⟨r, hr, hrb⟩ : ∃ r : Nat, (q7 : Int).tmod (m : Int) = (r : Int) ∧ r < m := ⟨q7 % m, by rw [Int.tmod_eq_emod_of_nonneg (by omega)]; omega, Nat.mod_lt _ (by omega)⟩
    have hwr : IntKind.u64.wrap (r : Int) = r := IntWalk.u64_in _ (by omega)
    obtain ⟨hi, hhi, hhib⟩ : ∃ hi : Nat, (n1 : Int) + (r : Int) = (hi : Int) ∧ hi ≤ nx := ⟨n1 + r, by omega, by omega⟩
    have hwhi : IntKind.u64.wrap (hi : Int) = hi := IntWalk.u64_in _ (by omega)
    have hcw := H3.out.d.lt.2 c H3.out.d.lt.1
    go_upto_region 18 with fail
    go_cut [7] (fun v wx => ∃ g, SlG encR 37 wx v (some g) [(n, hi)] ∧ w2.heap.size ≤ g ∧ Below w2.heap.size w2 wx)
    case first =>
      go_wp2_with fail
      have z5 : w2.drew.cell? ⟨z, 5, none⟩ = _ := z5
      have c1 : w2.drew.cell? ⟨c, 1, none⟩ = _ := c1
      refine wp_region_till (S := fun w' => w'.cell? ⟨z, 5, none⟩ = some (.int .u64 fr) ∧ w'.cell? ⟨c, 1, none⟩ = some (.int .u64 nx)) [] (by kernel_rfl) (by exact ⟨z5, c1⟩) (fun hHeld => ?_)
      refine wpTill_take0 (i := 0) (oi := ⟨some 95, _, _, _, _, _⟩) (v := ?_) rfl (by kernel_rfl) (fun _ _ _ h => h) (Or.inl ⟨by rfl, ?_⟩) (fun _ => hHeld) ?_
      rotate_left
      · intro w hSw
        (try dsimp only at hSw)
        go_simp
        try with_reducible rfl
      try simp only [Act.put, List.setIfInBounds_toArray, List.set_cons_zero, List.set_cons_succ]
      refine wpTill_take0 (i := 1) (oi := ⟨some 96, _, _, _, _, _⟩) (v := ?_) rfl (by kernel_rfl) (fun _ _ _ h => h) (Or.inl ⟨by rfl, ?_⟩) (fun _ => hHeld) ?_
      rotate_left
      · intro w hSw
        (try dsimp only at hSw)
        go_simp
        try with_reducible rfl
      try simp only [Act.put, List.setIfInBounds_toArray, List.set_cons_zero, List.set_cons_succ]
      refine wpTill_take0 (i := 2) (oi := ⟨some 97, _, _, _, _, _⟩) (v := ?_) rfl (by kernel_rfl) (fun _ _ _ h => h) (Or.inl ⟨by rfl, ?_⟩) (fun _ => hHeld) ?_
      rotate_left
      · intro w hSw
        (try dsimp only at hSw)
        go_simp
        try with_reducible rfl
      try simp only [Act.put, List.setIfInBounds_toArray, List.set_cons_zero, List.set_cons_succ]
      refine wpTill_take0 (i := 3) (oi := ⟨some 98, _, _, _, _, _⟩) (v := ?_) rfl (by kernel_rfl) (fun _ _ _ h => h) (Or.inl ⟨by rfl, ?_⟩) (fun _ => hHeld) ?_
      rotate_left
      · intro w hSw
        (try dsimp only at hSw)
        go_simp
        try with_reducible rfl
      try simp only [Act.put, List.setIfInBounds_toArray, List.set_cons_zero, List.set_cons_succ]
      refine wpTill_take (i := 4) (oi := ⟨some 99, _, _, _, _, _⟩) (v := ?_) rfl (by kernel_rfl) (fun _ _ _ h => h) (Or.inl ⟨by rfl, ?_⟩) (by exact hHeld) ?_
      rotate_left
      · intro w hSw
        (try dsimp only at hSw)
        go_simp
        try with_reducible rfl
      try simp only [Act.put, List.setIfInBounds_toArray, List.set_cons_zero, List.set_cons_succ]
      refine wpTill_take0 (i := 5) (oi := ⟨some 100, _, _, _, _, _⟩) (v := ?_) rfl (by kernel_rfl) (fun _ _ _ h => h) (Or.inl ⟨by rfl, ?_⟩) (fun _ => hHeld) ?_
      rotate_left
      · intro w hSw
        (try dsimp only at hSw)
        go_simp
        try with_reducible rfl
      try simp only [Act.put, List.setIfInBounds_toArray, List.set_cons_zero, List.set_cons_succ]
      refine wpTill_take0 (i := 6) (oi := ⟨some 101, _, _, _, _, _⟩) (v := ?_) rfl (by kernel_rfl) (fun _ _ _ h => h) (Or.inl ⟨by rfl, ?_⟩) (fun _ => hHeld) ?_
      rotate_left
      · intro w hSw
        (try dsimp only at hSw)
        go_simp
        try with_reducible rfl
      try simp only [Act.put, List.setIfInBounds_toArray, List.set_cons_zero, List.set_cons_succ]
      refine wpTill_take0 (i := 7) (oi := ⟨some 102, _, _, _, _, _⟩) (v := ?_) rfl (by kernel_rfl) (fun _ _ _ h => h) (Or.inl ⟨by rfl, ?_⟩) (fun _ => hHeld) ?_
      rotate_left
      · intro w hSw
        (try dsimp only at hSw)
        go_simp
        try with_reducible rfl
      try simp only [Act.put, List.setIfInBounds_toArray, List.set_cons_zero, List.set_cons_succ]
      refine wpTill_take0 (i := 8) (oi := ⟨some 103, _, _, _, _, _⟩) (v := ?_) rfl (by kernel_rfl) (fun _ _ _ h => h) (Or.inl ⟨by rfl, ?_⟩) (fun _ => hHeld) ?_
      rotate_left
      · intro w hSw
        (try dsimp only at hSw)
        go_simp
        try with_reducible rfl
      try simp only [Act.put, List.setIfInBounds_toArray, List.set_cons_zero, List.set_cons_succ]
      refine wpTill_take (i := 9) (oi := ⟨some 104, _, _, _, _, _⟩) (v := ?_) rfl (by kernel_rfl) (fun _ _ _ h => h) (Or.inl ⟨by rfl, ?_⟩) (by exact hHeld) ?_
      rotate_left
      · intro w hSw
        (try dsimp only at hSw)
        go_simp
        try with_reducible rfl
      try simp only [Act.put, List.setIfInBounds_toArray, List.set_cons_zero, List.set_cons_succ]
      refine wpTill_take0 (i := 10) (oi := ⟨some 105, _, _, _, _, _⟩) (v := ?_) rfl (by kernel_rfl) (fun _ _ _ h => h) (Or.inl ⟨by rfl, ?_⟩) (fun _ => hHeld) ?_
      rotate_left
      · intro w hSw
        (try dsimp only at hSw)
        go_simp
        try with_reducible rfl
      try simp only [Act.put, List.setIfInBounds_toArray, List.set_cons_zero, List.set_cons_succ]
      refine wpTill_take0 (i := 11) (oi := ⟨some 106, _, _, _, _, _⟩) (v := ?_) rfl (by kernel_rfl) (fun _ _ _ h => h) (Or.inl ⟨by rfl, ?_⟩) (fun _ => hHeld) ?_
      rotate_left
      · intro w hSw
        (try dsimp only at hSw)
        go_simp
        try with_reducible rfl
      try simp only [Act.put, List.setIfInBounds_toArray, List.set_cons_zero, List.set_cons_succ]
      refine wpTill_take0 (i := 12) (oi := ⟨some 107, _, _, _, _, _⟩) (v := ?_) rfl (by kernel_rfl) (fun _ _ _ h => h) (Or.inl ⟨by rfl, ?_⟩) (fun _ => hHeld) ?_
      rotate_left
      · intro w hSw
        (try dsimp only at hSw)
        go_simp
        try with_reducible rfl
      try simp only [Act.put, List.setIfInBounds_toArray, List.set_cons_zero, List.set_cons_succ]
      refine wpTill_take0 (i := 13) (oi := ⟨some 108, _, _, _, _, _⟩) (v := ?_) rfl (by kernel_rfl) (fun _ _ _ h => h) (Or.inl ⟨by rfl, ?_⟩) (fun _ => hHeld) ?_
      rotate_left
      · intro w hSw
        (try dsimp only at hSw)
        go_simp
        try with_reducible rfl
      try simp only [Act.put, List.setIfInBounds_toArray, List.set_cons_zero, List.set_cons_succ]
      refine wpTill_take0 (i := 14) (oi := ⟨some 109, _, _, _, _, _⟩) (v := ?_) rfl (by kernel_rfl) (fun _ _ _ h => h) (Or.inl ⟨by rfl, ?_⟩) (fun _ => hHeld) ?_
      rotate_left
      · intro w hSw
        (try dsimp only at hSw)
        go_simp
        try with_reducible rfl
      try simp only [Act.put, List.setIfInBounds_toArray, List.set_cons_zero, List.set_cons_succ]
      refine wpTill_ready (rs := [15]) (by kernel_rfl) (by simp) ?_
      refine AllTill.cons (o := ⟨some 110, _, _, _, _, _⟩) rfl (fun K hK => ?_) AllTill.nil
      refine step_fresh (enc := encR) (E := 37) rfl [(n, hi)] #[.int .u64 n, .int .u64 hi] rfl (by simp) (by kernel_rfl) ?_
      intro W1 v1 g1 f1 hg1 hx1
      refine hK.out _ _ (by exact ⟨cell_keep hx1 (heap_lt HKZ3.out) z5, cell_keep hx1 (H3.out.d.lt.2 c H3.out.d.lt.1) c1⟩) (fun hHeld => ?_)
      clear hK K
      try simp only [Act.put, List.setIfInBounds_toArray, List.set_cons_zero, List.set_cons_succ]
      refine wpTill_take0 (i := 16) (oi := ⟨some 7, _, _, _, _, _⟩) (v := ?_) rfl (by kernel_rfl) (fun _ _ _ h => h) (Or.inl ⟨by rfl, ?_⟩) (fun _ => hHeld) ?_
      rotate_left
      · intro w hSw
        (try dsimp only at hSw)
        go_simp
        try with_reducible rfl
      try simp only [Act.put, List.setIfInBounds_toArray, List.set_cons_zero, List.set_cons_succ]
      refine wpTill_done (by kernel_rfl) ?_ _
      go_wp2_with fail
      go_meet
      case rel => exact ⟨g1, f1, hg1, (Below.refl _ _).drew.trans hx1⟩
    case rest =>
    obtain ⟨g, hsg, hg, hb3⟩ := hcut
    have HVA := Lib.hid (hsg.vwa (fp := fun j => fp j ∨ j = c) (fun k e x => by
      cases e
      rcases x with x | x
      · have := H3.out.p.lt.2 g x
        omega
      · omega))
    have HRL := Lib.hid (show ([(n, hi)] : List Rg).length ≤ 1000 ∧ ∀ r ∈ [(n, hi)], r.1 < 18446744073709551616 ∧ r.2 < 18446744073709551616 from ⟨by simp, rg_bd (by omega) (by omega)⟩)
    have H2 := Lib.hid (H3.out.later hb3)
    clear hsg hg hb3 H3 HKZ3 z5 c1
    generalize wc = w3 at *
    go_wp2_with fail
    refine (lack_any b s fp _ [(n, hi)] _ (by exact H2.out.p) (by exact vwa_vw HVA.out) (Nat.le_refl _) HRL.out.1 HRL.out.2).mono ?_
    rintro e w9 ⟨v1, o1, v2, o2, rfl, hs1, hs2, hg1, hg2, hm⟩
    obtain ⟨fp3, h3⟩ := H2.out.goP hm
    have H3 := Lib.hid h3
    have HVA3 := Lib.hid (HVA.out.upd hm.upd (fun k hk => .inl hk))
    have HS1 := Lib.hid hs1
    have HS2 := Lib.hid hs2
    have HG := Lib.hid (And.intro hg1 hg2)
    have HLT := Lib.hid H2.out.d.lt.2
    have HLEN := Lib.hid (ack_len H2.out.p.ok [(n, hi)])
    clear hs1 hs2 hg1 hg2 hm h3
    go_wp2_with fail
    refine (dack_any c d fq _ [(n, hi)] _ (by exact H3.out.d) (fun w5 hu => vwa_vw (HVA3.out.upd hu (fun k hk => .inr hk))) HRL.out.1 HRL.out.2).mono ?_
    rintro e w4 ⟨v3, o3, v4, o4, rfl, hs3, hs4, hg3, hg4, hm⟩
    obtain ⟨fq4, h4⟩ := H3.out.goD hm
    have H4 := Lib.hid (show Two W w4 b c (s.ackS [(n, hi)]) (d.ackS [(n, hi)]) fp3 fq4 from h4)
    have HS14 := Lib.hid (HS1.out.keeps hm.upd (fun g e q => by have := HG.out.1 g e; have := HLT.out g q; omega))
    have HS24 := Lib.hid (HS2.out.keeps hm.upd (fun g e q => by have := HG.out.2 g e; have := HLT.out g q; omega))
    have HS3 := Lib.hid hs3
    have HS4 := Lib.hid hs4
    have HER := Lib.hid (sim_ackErr HSIM.out [(n, hi)])
    obtain ⟨er, her⟩ : ∃ er, d.ackErr [(n, hi)] = er := ⟨_, rfl⟩
    rw [HER.out, her]
    clear her
    clear hs3 hs4 hg3 hg4 hm h4
    go_wp2_with fail
    refine (packs_eq v1 v3 _ _ _ (by exact HS14.out.vw) (by exact HS3.out.vw) (sim_ack1 HSIM.out [(n, hi)]) HLEN.out.1).mono ?_
    rintro e w5 ⟨rfl, n5, rfl⟩
    go_wp2_with fail
    refine (packs_eq v2 v4 _ _ _ (by exact (HS24.out.drewN n5).vw) (by exact (HS4.out.drewN n5).vw) (sim_ack2 HSIM.out [(n, hi)]) HLEN.out.2).mono ?_
    rintro e w6 ⟨rfl, n6, rfl⟩
    have H6 := Lib.hid (H4.out.later (below_drewN (below_drewN (Below.refl _ _) n5) n6))
    generalize (w4.drewN n5).drewN n6 = w6 at *
    go_wp2_with fail
    refine (same_two b c _ _ fp3 fq4 _ (by exact H6.out) (sim_ackS HSIM.out [(n, hi)])).mono ?_
    rintro e w7 ⟨rfl, h7⟩
    have H7 := Lib.hid h7
    clear h7
    go_wp2_with fail
    go_ret
    exact ⟨rfl, _, _, _, _, H7.out, sim_ackS HSIM.out [(n, hi)]⟩
end Go.Proofs.Ytacfbgnbjdckiaa

/- DERIVED. What do answers: Clear (printed by mksqdo2.py). -/
namespace Go.Proofs.Ytacfbgnbjdckiaa
open Go.RowKit

def ClearPost (b : Nat) (s : LS) (fp : Nat → Prop) (w : World) (e : Ending) (w' : World) : Prop := ∃ v o, e = .returned v ∧ SlG encQ 32 w' v o s.L ∧ (∀ g, o = some g → w.heap.size ≤ g) ∧ LM kP w w' fp b { s with L := [] }
set_option maxRecDepth 100000 in
set_option maxHeartbeats 2000000 in
theorem lclear_any (b : Nat) (s : LS) (fp : Nat → Prop) (w : World) (h : LAt kP w b s fp) :
    Calls Try.prog 11 #[.pointer (some ⟨b, 0, none⟩)] w (ClearPost b s fp w) := by
  have H := Lib.hid h
  clear h
  go_enter Try.func11, Try.ntmps11
  go_wp2_with fail
  refine (part_all b s fp (fun _ => true) 27 _ (by exact H.out) (fun args W => rfl) (fun p _ W _ => clear_fn p W)).mono ?_
  rintro e w2 ⟨v, o, rfl, hs, ho, hfp, hu⟩
  have HS := Lib.hid (show ClearPost b s fp w (.returned v) w2 from by
    have e1 : s.L.filter (fun _ => true) = s.L := List.filter_eq_self.2 (fun _ _ => rfl)
    have e2 : (s.L.filter fun _ => !true) = [] := by simp
    rw [e1] at hs
    obtain ⟨fp', h1, h2⟩ := hfp
    rw [e2] at h1
    have hb := H.out.lt.1
    exact ⟨v, o, rfl, hs, ho, fp', h1, hu.mono (fun j _ x => by subst x; exact hb), h2⟩)
  clear hs ho hfp hu
  go_wp2_with fail
  go_ret
  exact HS.out
set_option maxRecDepth 100000 in
set_option maxHeartbeats 4000000 in
theorem do_clear {W : World} (b c : Nat) (s d : LS) (fp fq : Nat → Prop) (sk sz : Int) (asks : Bool) (tm : Int) (fr : Nat) (vrows : Value) (pn : Nat) (pt pz : Int) (pa : Bool) (pfa : Option Addr) (pfl pfc : Nat) (vr : Value) (w : World) (h : Two W w b c s d fp fq) (hs : s.core = d.core)
    (ha : AkSOk W W.heap.size ⟨10, sk, sz, asks, tm, fr, vrows, pn, pt, pz, pa, pfa, pfl, pfc, vr⟩) :
    Calls Try.prog 18 #[.pointer (some ⟨b, 0, none⟩), .pointer (some ⟨c, 0, none⟩), .agg #[.int .i64 10, .int .i64 sk, .int .i64 sz, .bool asks, .int .i64 tm, .int .u64 fr, vrows, .int .u64 pn, .int .i64 pt, .int .i64 pz, .bool pa, .slice pfa pfl pfc, vr]] w (DoPost W b c) := by
  have H := Lib.hid h
  have HSIM := Lib.hid hs
  have HA := Lib.hid (ha.below h.below)
  have hfr := ha.fr
  have hW := h.below.size
  obtain ⟨nx, hnx⟩ : ∃ nx, s.nx = nx := ⟨_, rfl⟩
  have hnx2 : d.nx = nx := by rw [← (LS.core_eq hs).2.1]; exact hnx
  have hnxb : nx ≤ 4611686018427387904 := by rw [← hnx]; exact h.p.ok.nx
  have HNX := Lib.hid (And.intro hnx hnx2)
  obtain ⟨hsk1, hsk2⟩ := ha.sk
  obtain ⟨hsz1, hsz2⟩ := ha.sz
  obtain ⟨htm1, htm2⟩ := ha.tm
  obtain ⟨hpt1, hpt2⟩ := ha.pt
  obtain ⟨hpz1, hpz2⟩ := ha.pz
  have hpn := ha.pn
  simp only at hfr hsk1 hsk2 hsz1 hsz2 htm1 htm2 hpt1 hpt2 hpz1 hpz2 hpn
  obtain ⟨rs0, hvr, hrs0⟩ := ha.rg
  obtain ⟨xs, hxs, hxsb⟩ := ha.rows
  have HVR := Lib.hid (And.intro (hvr.below h.below) hrs0)
  have HXS := Lib.hid (And.intro (hxs.below h.below) hxsb)
  clear h hs ha hnx hnx2 hvr hrs0 hxs hxsb
  go_enter Try.func18, Try.ntmps18
  go_upto_region 0 with fail
  go_cut [5, 6] (fun v f wx => ∃ z, v = .pointer (some ⟨z, 0, none⟩) ∧ f = .bool false ∧ w.heap.size ≤ z ∧ Below w.heap.size w wx ∧ wx.heap[z]? = some (.cells #[.int .i64 10, .int .i64 sk, .int .i64 sz, .bool asks, .int .i64 tm, .int .u64 fr, vrows, .int .u64 pn, .int .i64 pt, .int .i64 pz, .bool pa, .slice pfa pfl pfc, vr] 56 (0, 0)))
  case first =>
    go_wp2_with fail
    go_meet
    case rel => exact ⟨_, rfl, rfl, Nat.le_refl _, (Below.refl _ _).alloc (Nat.le_refl _) _, alloc_at _ _⟩
  case rest =>
  obtain ⟨z, rfl, rfl, hz, hb, hkz⟩ := hcut
  have H1 := Lib.hid (H.out.later hb)
  have HKZ := Lib.hid hkz
  have HZ := Lib.hid (show ¬ fp z ∧ ¬ fq z from ⟨fun q => by have := H.out.p.lt.2 z q; omega, fun q => by have := H.out.d.lt.2 z q; omega⟩)
  have HB := Lib.hid hb
  have hzl := heap_lt hkz
  have hbs := hb.size
  have hcz : ¬ c = z := by have := H.out.d.lt.2 c H.out.d.lt.1; omega
  have hzc : ¬ z = c := fun e => hcz e.symm
  have z0 := (cell_at hkz 0).trans (by rfl : _ = some (Value.int .i64 10))
  have c1 : wc.cell? ⟨c, 1, none⟩ = some (.int .u64 nx) := by rw [H1.out.d.cells.1, HNX.out.2]
  clear hb hkz
  generalize wc = w1 at *
  obtain ⟨vD0, oD0, hLD0, _⟩ := H1.out.d
  obtain ⟨od, cd, rfl, hcd1, hcd2⟩ := hLD0.row.shape
  have c0 : w1.cell? ⟨c, 0, none⟩ = some (.slice od d.L.length cd) := (cell_at hLD0.blk 0).trans rfl
  generalize d.L.length = nd at *
  clear hLD0
  go_upto_region 29 with fail
  go_cut [188] (fun v wx => v = .bool false ∧ ∃ fp', Two W wx b c { s with L := [] } d fp' fq)
  case first =>
    go_wp2_with fail
    have c0 : w1.drew.cell? ⟨c, 0, none⟩ = _ := c0
    refine wp_region_till (S := fun w' => w'.cell? ⟨c, 0, none⟩ = some (.slice od nd cd)) [] (by kernel_rfl) (by exact c0) (fun hHeld => ?_)
    refine wpTill_take0 (i := 0) (oi := ⟨some 181, _, _, _, _, _⟩) (v := ?_) rfl (by kernel_rfl) (fun _ _ _ h => h) (Or.inl ⟨by rfl, ?_⟩) (fun _ => hHeld) ?_
    rotate_left
    · intro w hSw
      (try dsimp only at hSw)
      go_simp
      try with_reducible rfl
    try simp only [Act.put, List.setIfInBounds_toArray, List.set_cons_zero, List.set_cons_succ]
    refine wpTill_take0 (i := 2) (oi := ⟨some 183, _, _, _, _, _⟩) (v := ?_) rfl (by kernel_rfl) (fun _ _ _ h => h) (Or.inl ⟨by rfl, ?_⟩) (fun _ => hHeld) ?_
    rotate_left
    · intro w hSw
      (try dsimp only at hSw)
      go_simp
      try with_reducible rfl
    try simp only [Act.put, List.setIfInBounds_toArray, List.set_cons_zero, List.set_cons_succ]
    refine wpTill_take0 (i := 3) (oi := ⟨some 184, _, _, _, _, _⟩) (v := ?_) rfl (by kernel_rfl) (fun _ _ _ h => h) (Or.inl ⟨by rfl, ?_⟩) (fun _ => hHeld) ?_
    rotate_left
    · intro w hSw
      (try dsimp only at hSw)
      go_simp
      try with_reducible rfl
    try simp only [Act.put, List.setIfInBounds_toArray, List.set_cons_zero, List.set_cons_succ]
    refine wpTill_take0 (i := 4) (oi := ⟨some 185, _, _, _, _, _⟩) (v := ?_) rfl (by kernel_rfl) (fun _ _ _ h => h) (Or.inl ⟨by rfl, ?_⟩) (fun _ => hHeld) ?_
    rotate_left
    · intro w hSw
      (try dsimp only at hSw)
      go_simp
      try with_reducible rfl
    try simp only [Act.put, List.setIfInBounds_toArray, List.set_cons_zero, List.set_cons_succ]
    refine wpTill_take (i := 5) (oi := ⟨some 186, _, _, _, _, _⟩) (v := ?_) rfl (by kernel_rfl) (fun _ _ _ h => h) (Or.inl ⟨by rfl, ?_⟩) (by exact hHeld) ?_
    rotate_left
    · intro w hSw
      (try dsimp only at hSw)
      go_simp
      try with_reducible rfl
    try simp only [Act.put, List.setIfInBounds_toArray, List.set_cons_zero, List.set_cons_succ]
    refine wpTill_ready (rs := [1]) (by kernel_rfl) (by simp) ?_
    refine AllTill.cons (o := ⟨some 182, _, _, _, _, _⟩) rfl (fun K hK => ?_) AllTill.nil
    go_simp
    go_at_call 11
    refine (lclear_any b s fp _ (by exact H1.out.p.below (Below.refl _ _).drew)).mono ?_
    rintro e W1 ⟨v1, o1, rfl, hs1, hg1, hm1⟩
    obtain ⟨fp1, h1⟩ := (H1.out.later (Below.refl _ _).drew).goP hm1
    have HS := Lib.hid hs1
    have HT := Lib.hid h1
    have hc0 : W1.cell? ⟨c, 0, none⟩ = some (.slice od nd cd) := cell_upd hm1.upd c0 (fun q => H1.out.ap c q H1.out.d.lt.1) (H1.out.d.lt.2 c H1.out.d.lt.1)
    go_wp2_with fail
    refine hK.out _ _ (by exact hc0) (fun hHeld => ?_)
    clear hK K
    try simp only [Act.put, List.setIfInBounds_toArray, List.set_cons_zero, List.set_cons_succ]
    refine wpTill_ready (rs := [6]) (by kernel_rfl) (by simp) ?_
    refine AllTill.cons (o := ⟨some 187, _, _, _, _, _⟩) rfl (fun K hK => ?_) AllTill.nil
    go_simp
    go_at_call 30
    obtain ⟨vD, oD, hLD, _⟩ := HT.out.d
    have hcd := (cell_at hLD.blk 0).symm.trans hc0
    have hvD : vD = .slice od nd cd := by injection hcd
    subst hvD
    refine (packs_eq v1 _ _ _ _ (by exact HS.out.vw) (by exact hLD.row.vw) (LS.core_eq HSIM.out).1 (by have := H1.out.p.ok.len; omega)).mono ?_
    rintro e W6 ⟨rfl, n6, rfl⟩
    have HT6 := Lib.hid (HT.out.later (below_drewN (Below.refl _ _) n6))
    go_wp2_with fail
    refine hK.out _ _ (by exact hc0) (fun hHeld => ?_)
    clear hK K
    try simp only [Act.put, List.setIfInBounds_toArray, List.set_cons_zero, List.set_cons_succ]
    refine wpTill_take0 (i := 7) (oi := ⟨some 188, _, _, _, _, _⟩) (v := ?_) rfl (by kernel_rfl) (fun _ _ _ h => h) (Or.inl ⟨by rfl, ?_⟩) (fun _ => hHeld) ?_
    rotate_left
    · intro w hSw
      (try dsimp only at hSw)
      go_simp
      try with_reducible rfl
    try simp only [Act.put, List.setIfInBounds_toArray, List.set_cons_zero, List.set_cons_succ]
    refine wpTill_done (by kernel_rfl) ?_ _
    go_wp2_with fail
    go_meet
    case rel => exact ⟨rfl, _, HT6.out⟩
  case rest =>
  obtain ⟨rfl, fp', h2⟩ := hcut
  generalize wc = w2 at *
  obtain ⟨vD, oD, hLD, hfq⟩ := h2.d
  have g0 := free_at hLD.blk 0
  have d0 := (cell_at hLD.blk 0).trans (by rfl : _ = some vD)
  have hsim2 : ({ s with L := [] } : LS).core = ({ d with L := [] } : LS).core := LS.core_of rfl (LS.core_eq HSIM.out).2.1 (LS.core_eq HSIM.out).2.2.1 (LS.core_eq HSIM.out).2.2.2
  have HSIM2 := Lib.hid hsim2
  have HT := Lib.hid (show ∃ fq', Two W (w2.setCell ⟨c, 0, none⟩ (.slice none 0 0)) b c { s with L := [] } { d with L := [] } fp' fq' from h2.goD (by
    have hu : Upd (fun j => j = c) w2 (w2.setCell ⟨c, 0, none⟩ (.slice none 0 0)) := (Upd.refl (fun j => j = c) w2).setCell ⟨c, 0, none⟩ (.inl rfl) _
    have ok := hLD.ok
    refine ⟨LFp kD c none [], ⟨_, none, ⟨(set_at hLD.blk 0 _).trans rfl, SlG.nil _, fun k => (by cases k), .inr rfl, ⟨by simp, ok.nx, ok.ak, by simp, by simp, by simp, by simp, by simp⟩⟩, rfl⟩, hu.mono (fun j _ x => by rw [x]; exact h2.d.lt.1), fun g hg => ?_⟩
    rcases hg with hg | hg | ⟨_, hp, _⟩
    · exact .inl (by rw [hg]; exact h2.d.lt.1)
    · cases hg
    · cases hp))
  clear h2 hLD hfq c0 c1 hsim2
  go_upto_region 32 with fail
  go_cut [6] (fun v wx => v = .bool true ∧ ∃ s' d' fp' fq', Two W wx b c s' d' fp' fq' ∧ s'.core = d'.core)
  case first =>
    obtain ⟨fq', ht⟩ := HT.out
    go_wp2_with fail
    refine (same_two b c _ _ fp' fq' _ (by exact ht) HSIM2.out).mono ?_
    rintro e w7 ⟨rfl, h7⟩
    have H7 := Lib.hid h7
    clear h7 ht
    go_wp2_with fail
    go_meet
    case rel => exact ⟨rfl, _, _, _, _, H7.out, HSIM2.out⟩
  case rest =>
  obtain ⟨rfl, hq⟩ := hcut
  have HQ := Lib.hid hq
  clear hq
  generalize wc = w8 at *
  go_wp2_with fail
  go_ret
  exact ⟨rfl, HQ.out⟩
end Go.Proofs.Ytacfbgnbjdckiaa
