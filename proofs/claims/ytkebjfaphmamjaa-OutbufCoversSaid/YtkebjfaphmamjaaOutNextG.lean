/- DERIVED. Walk of outbuf's Next, where a piece goes. -/
import Derived.Test.YtkebjfaphmamjaaOutWaits
namespace Go.Proofs.Ytkebjfaphmamjaa
open Go.RowKit

/-- A piece goes. -/
def OS.went (s : OS) (f t : Nat) : OS := { s with sent := max s.sent t, ys := cutRaw f t s.ys, es := s.es || (decide (t = s.B.length) && s.ende), el := s.el && !(decide (t = s.B.length) && s.ende) }
theorem went_no (s : OS) (f t z : Nat) (hz : max s.sent t = z) (h : (decide (t = s.B.length) && s.ende) = false) : { s with ys := cutRaw f t s.ys, sent := z } = s.went f t := by
  unfold OS.went
  rw [h, hz]
  simp
theorem went_yes (s : OS) (f t z : Nat) (hz : max s.sent t = z) (h : (decide (t = s.B.length) && s.ende) = true) : { s with ys := cutRaw f t s.ys, sent := z, es := true, el := false } = s.went f t := by
  unfold OS.went
  rw [h, hz]
  simp
theorem ons_mk (w : World) (fp : Nat → Prop) (b : Nat) (s : OS) (sent t : Nat) (v : Value) (og : Option Nat) (en X : Bool) (w5 : World) (he : X = en) (hm : OM w w5 fp b (s.went sent t)) (hv : SlG encB 5 w5 v og ((s.B.drop sent).take (t - sent))) (hg : ∀ g, og = some g → w.heap.size ≤ g) :
    ∃ v' og', (Ending.returned (.tuple #[.int .u64 sent, v, .bool en, .bool true])) = .returned (.tuple #[.int .u64 sent, v', .bool X, .bool true]) ∧ OM w w5 fp b (s.went sent t) ∧ SlG encB 5 w5 v' og' ((s.B.drop sent).take (t - sent)) ∧ (∀ g, og' = some g → w.heap.size ≤ g) :=
  ⟨v, og, by rw [he], hm, hv, hg⟩
set_option maxRecDepth 100000 in
set_option maxHeartbeats 2000000 in
theorem onext_go (b : Nat) (s : OS) (fp : Nat → Prop) (most : Int) (limit sent t0 t : Nat) (w : World) (h : OAt w b s fp) (hlim : limit < 18446744073709551616) (hpt : s.part limit = (sent, t0)) (hbs : s.base ≤ sent) (hlt : sent < t) (ht : min t0 (sent + most.toNat) = t) (htl : t ≤ s.B.length) (hB : s.B.length ≤ 1000000000) (ht0 : t0 ≤ 1099511627776) (hcl : (cutRaw sent t s.ys).length ≤ 100000) (hm1 : -9223372036854775808 ≤ most) (hm : most ≤ 9223372036854775807) :
    Calls Try.prog 10 #[.pointer (some ⟨b, 0, none⟩), .int .i64 most, .int .u64 limit] w
      fun e w' => ∃ v og, e = .returned (.tuple #[.int .u64 sent, v, .bool (decide (t = s.B.length) && s.ende), .bool true]) ∧ OM w w' fp b (s.went sent t) ∧ SlG encB 5 w' v og ((s.B.drop sent).take (t - sent)) ∧ (∀ g, og = some g → w.heap.size ≤ g) := by
  obtain ⟨i0, hi0, hz0, hz1, hz2'⟩ := info_parts infoB
  have hlen := h.ok.len
  have hbl := h.ok.base
  have H := Lib.hid h
  have HPT := Lib.hid hpt
  obtain ⟨len, hln⟩ : ∃ len, s.B.length = len := ⟨_, rfl⟩
  obtain ⟨base, hbase⟩ : ∃ base, s.base = base := ⟨_, rfl⟩
  obtain ⟨en, hen⟩ : ∃ en, s.ende = en := ⟨_, rfl⟩
  obtain ⟨mo, hmo⟩ : ∃ mo, most.toNat = mo := ⟨_, rfl⟩
  have HLE := Lib.hid hln
  have HBA := Lib.hid hbase
  have HE := Lib.hid hen
  have HCL := Lib.hid hcl
  rw [hln] at hB
  rw [hln] at hlen hbl htl ⊢
  rw [hbase] at hbs hbl
  rw [hen]
  rw [hmo] at ht
  have hmos : (most : Int) = (mo : Int) ∧ 0 < most := by omega
  obtain ⟨hmo1, hmp⟩ := hmos
  subst hmo1
  have hmb : mo ≤ 9223372036854775807 := by omega
  clear h hpt hln hbase hen hcl hmo hm hm1
  have HTL := Lib.hid htl
  go_enter Try.func10, Try.ntmps10
  go_wp2_with fail
  refine (opart_any b s fp limit _ (by exact H.out) hlim HPT.out).mono ?_
  rintro e w1 ⟨rfl, hb⟩
  have HB := Lib.hid hb
  clear hb
  go_upto_region 2 with fail
  go_cut [11] (fun v wx => v = .int .u64 t ∧ wx = w1)
  case first =>
    have q2 : (0 : Int) < (mo : Int) := by omega
    have hwm : IntKind.u64.wrap (mo : Int) = mo := IntWalk.u64_in _ (by omega)
    obtain ⟨z, hz, hzt⟩ : ∃ z : Nat, (sent : Int) + (mo : Int) = (z : Int) ∧ sent + mo = z := ⟨sent + mo, by omega, rfl⟩
    have hzb : (z : Int) < 18446744073709551616 := by omega
    have hwz : IntKind.u64.wrap (z : Int) = z := IntWalk.u64_in _ (by omega)
    rw [hzt] at ht
    rcases (by omega : (z < t0 ∧ t = z) ∨ (t0 < z ∧ t = t0) ∨ (t0 = z ∧ t = t0)) with ⟨q1, q3⟩ | ⟨q1, q3⟩ | ⟨q1, q3⟩
    · subst q3
      clear ht hzt
      go_wp2_with fail
      go_meet
      case rel => exact ⟨rfl, rfl⟩
    · subst q3
      clear ht hzt
      go_wp2_with fail
      go_meet
      case rel => exact ⟨rfl, rfl⟩
    · subst q3
      subst q1
      clear ht hzt
      go_wp2_with fail
      go_meet
      case rel => exact ⟨rfl, rfl⟩
  case rest =>
    obtain ⟨rfl, rfl⟩ := hcut
    generalize wc = w1 at *
    have H1 := Lib.hid (H.out.below HB.out)
    obtain ⟨vb, ob, c, oc, d, od, hO, hfp⟩ := H1.out
    obtain ⟨oB, cB, e0, hcB, hcB2⟩ := hO.row.shape
    rw [List.length_drop, HLE.out, HBA.out] at e0 hcB
    obtain ⟨n0, hn0⟩ : ∃ n0, len - base = n0 := ⟨_, rfl⟩
    rw [hn0] at e0 hcB
    subst e0
    have HO := Lib.hid hO
    have HFP := Lib.hid hfp
    have hrv := (hO.row.vw encB_len).below (Below.refl _ _).drew
    obtain ⟨l, hl, hl2⟩ : ∃ l : Nat, (sent : Int) - (base : Int) = (l : Int) ∧ sent - base = l := ⟨sent - base, by omega, rfl⟩
    obtain ⟨hh, hhh, hhh2⟩ : ∃ hh : Nat, (t : Int) - (base : Int) = (hh : Int) ∧ t - base = hh := ⟨t - base, by omega, rfl⟩
    have hlh : l ≤ hh := by omega
    have hhc : hh ≤ cB := by omega
    have hlb : (l : Int) ≤ 1099511627776 := by omega
    have hsb : sent ≤ 1099511627776 := by omega
    have hsti : (sent : Int) < (t : Int) := by omega
    have htb : t ≤ 1099511627776 := by omega
    have hhb : (hh : Int) ≤ 1099511627776 := by omega
    have hwl : IntKind.u64.wrap (l : Int) = l := IntWalk.u64_in _ (by omega)
    have hwh : IntKind.u64.wrap (hh : Int) = hh := IntWalk.u64_in _ (by omega)
    have HP0 := hrv.mid encB_len hlh (show hh ≤ n0 by omega)
    have hpc : ((s.B.drop s.base).drop l).take (hh - l) = (s.B.drop sent).take (t - sent) := by
      rw [List.drop_drop, HBA.out, show base + l = sent by omega, show hh - l = t - sent by omega]
    rw [hpc] at HP0
    have HP := Lib.hid HP0
    have HPL := Lib.hid (show ((s.B.drop sent).take (t - sent)).length ≤ 1000000000 by rw [List.length_take]; omega)
    have hst : ¬ sent = t := by omega
    have HSof := Lib.hid (show ∀ W, Below w1.drew.heap.size w1.drew W → W.cell? ⟨b, 0, none⟩ = some (.slice oB n0 cB) ∧ W.cell? ⟨b, 1, none⟩ = some (.int .u64 base) from fun W h => by
      have hk := below_keeps h (show w1.drew.heap[b]? = _ from HO.out.blk) (heap_lt HO.out.blk)
      refine ⟨(cell_at hk 0).trans rfl, ?_⟩
      rw [cell_at hk, ← HBA.out]
      rfl)
    clear hO hfp hrv HP0 hpc hl2 hhh2 hn0 ht htl hlt
    go_upto_region 8 with fail
    go_cut [12] (fun v wx => ∃ og, Below w1.drew.heap.size w1.drew wx ∧ SlG encB 5 wx v og ((s.B.drop sent).take (t - sent)) ∧ ∀ g, og = some g → w1.drew.heap.size ≤ g)
    case first =>
      go_wp2_with fail
      have hb : Below w1.drew.heap.size w1.drew w1.drew := Below.refl _ _
      refine wp_region_till (S := fun w' => w'.cell? ⟨b, 0, none⟩ = some (.slice oB n0 cB) ∧ w'.cell? ⟨b, 1, none⟩ = some (.int .u64 base)) [] (by kernel_rfl) (by exact HSof.out _ hb) (fun hHeld => ?_)
      refine wpTill_take0 (i := 0) (oi := ⟨some 62, _, _, _, _, _⟩) (v := ?_) rfl (by kernel_rfl) (fun _ _ _ h => h) (Or.inl ⟨by rfl, ?_⟩) (fun _ => hHeld) ?_
      rotate_left
      · intro w hSw
        (try dsimp only at hSw)
        go_simp
        try with_reducible rfl
      try simp only [Act.put, List.setIfInBounds_toArray, List.set_cons_zero, List.set_cons_succ]
      refine wpTill_take0 (i := 1) (oi := ⟨some 63, _, _, _, _, _⟩) (v := ?_) rfl (by kernel_rfl) (fun _ _ _ h => h) (Or.inl ⟨by rfl, ?_⟩) (fun _ => hHeld) ?_
      rotate_left
      · intro w hSw
        (try dsimp only at hSw)
        go_simp
        try with_reducible rfl
      try simp only [Act.put, List.setIfInBounds_toArray, List.set_cons_zero, List.set_cons_succ]
      refine wpTill_take0 (i := 2) (oi := ⟨some 64, _, _, _, _, _⟩) (v := ?_) rfl (by kernel_rfl) (fun _ _ _ h => h) (Or.inl ⟨by rfl, ?_⟩) (fun _ => hHeld) ?_
      rotate_left
      · intro w hSw
        (try dsimp only at hSw)
        go_simp
        try with_reducible rfl
      try simp only [Act.put, List.setIfInBounds_toArray, List.set_cons_zero, List.set_cons_succ]
      refine wpTill_take (i := 3) (oi := ⟨some 65, _, _, _, _, _⟩) (v := ?_) rfl (by kernel_rfl) (fun _ _ _ h => h) (Or.inl ⟨by rfl, ?_⟩) (by exact hHeld) ?_
      rotate_left
      · intro w hSw
        (try dsimp only at hSw)
        go_simp
        try with_reducible rfl
      try simp only [Act.put, List.setIfInBounds_toArray, List.set_cons_zero, List.set_cons_succ]
      refine wpTill_take0 (i := 4) (oi := ⟨some 66, _, _, _, _, _⟩) (v := ?_) rfl (by kernel_rfl) (fun _ _ _ h => h) (Or.inl ⟨by rfl, ?_⟩) (fun _ => hHeld) ?_
      rotate_left
      · intro w hSw
        (try dsimp only at hSw)
        go_simp
        try with_reducible rfl
      try simp only [Act.put, List.setIfInBounds_toArray, List.set_cons_zero, List.set_cons_succ]
      refine wpTill_take0 (i := 5) (oi := ⟨some 67, _, _, _, _, _⟩) (v := ?_) rfl (by kernel_rfl) (fun _ _ _ h => h) (Or.inl ⟨by rfl, ?_⟩) (fun _ => hHeld) ?_
      rotate_left
      · intro w hSw
        (try dsimp only at hSw)
        go_simp
        try with_reducible rfl
      try simp only [Act.put, List.setIfInBounds_toArray, List.set_cons_zero, List.set_cons_succ]
      refine wpTill_take0 (i := 6) (oi := ⟨some 68, _, _, _, _, _⟩) (v := ?_) rfl (by kernel_rfl) (fun _ _ _ h => h) (Or.inl ⟨by rfl, ?_⟩) (fun _ => hHeld) ?_
      rotate_left
      · intro w hSw
        (try dsimp only at hSw)
        go_simp
        try with_reducible rfl
      try simp only [Act.put, List.setIfInBounds_toArray, List.set_cons_zero, List.set_cons_succ]
      refine wpTill_take0 (i := 7) (oi := ⟨some 69, _, _, _, _, _⟩) (v := ?_) rfl (by kernel_rfl) (fun _ _ _ h => h) (Or.inl ⟨by rfl, ?_⟩) (fun _ => hHeld) ?_
      rotate_left
      · intro w hSw
        (try dsimp only at hSw)
        go_simp
        try with_reducible rfl
      try simp only [Act.put, List.setIfInBounds_toArray, List.set_cons_zero, List.set_cons_succ]
      refine wpTill_take (i := 8) (oi := ⟨some 70, _, _, _, _, _⟩) (v := ?_) rfl (by kernel_rfl) (fun _ _ _ h => h) (Or.inl ⟨by rfl, ?_⟩) (by exact hHeld) ?_
      rotate_left
      · intro w hSw
        (try dsimp only at hSw)
        go_simp
        try with_reducible rfl
      try simp only [Act.put, List.setIfInBounds_toArray, List.set_cons_zero, List.set_cons_succ]
      refine wpTill_take0 (i := 9) (oi := ⟨some 71, _, _, _, _, _⟩) (v := ?_) rfl (by kernel_rfl) (fun _ _ _ h => h) (Or.inl ⟨by rfl, ?_⟩) (fun _ => hHeld) ?_
      rotate_left
      · intro w hSw
        (try dsimp only at hSw)
        go_simp
        try with_reducible rfl
      try simp only [Act.put, List.setIfInBounds_toArray, List.set_cons_zero, List.set_cons_succ]
      refine wpTill_take0 (i := 10) (oi := ⟨some 72, _, _, _, _, _⟩) (v := ?_) rfl (by kernel_rfl) (fun _ _ _ h => h) (Or.inl ⟨by rfl, ?_⟩) (fun _ => hHeld) ?_
      rotate_left
      · intro w hSw
        (try dsimp only at hSw)
        go_simp
        try with_reducible rfl
      try simp only [Act.put, List.setIfInBounds_toArray, List.set_cons_zero, List.set_cons_succ]
      refine wpTill_take0 (i := 11) (oi := ⟨some 73, _, _, _, _, _⟩) (v := ?_) rfl (by kernel_rfl) (fun _ _ _ h => h) (Or.inl ⟨by rfl, ?_⟩) (fun _ => hHeld) ?_
      rotate_left
      · intro w hSw
        (try dsimp only at hSw)
        go_simp
        try with_reducible rfl
      try simp only [Act.put, List.setIfInBounds_toArray, List.set_cons_zero, List.set_cons_succ]
      refine wpTill_take0 (i := 12) (oi := ⟨some 74, _, _, _, _, _⟩) (v := ?_) rfl (by kernel_rfl) (fun _ _ _ h => h) (Or.inl ⟨by rfl, ?_⟩) (fun _ => hHeld) ?_
      rotate_left
      · intro w hSw
        (try dsimp only at hSw)
        go_simp
        try with_reducible rfl
      try simp only [Act.put, List.setIfInBounds_toArray, List.set_cons_zero, List.set_cons_succ]
      refine wpTill_take0 (i := 13) (oi := ⟨some 75, _, _, _, _, _⟩) (v := ?_) rfl (by kernel_rfl) (fun _ _ _ h => h) (Or.inl ⟨by rfl, ?_⟩) (fun _ => hHeld) ?_
      rotate_left
      · intro w hSw
        (try dsimp only at hSw)
        go_simp
        try with_reducible rfl
      try simp only [Act.put, List.setIfInBounds_toArray, List.set_cons_zero, List.set_cons_succ]
      refine wpTill_take (i := 14) (oi := ⟨some 76, _, _, _, _, _⟩) (v := ?_) rfl (by kernel_rfl) (fun _ _ _ h => h) (Or.inl ⟨by rfl, ?_⟩) (by exact hHeld) ?_
      rotate_left
      · intro w hSw
        (try dsimp only at hSw)
        go_simp
        try with_reducible rfl
      try simp only [Act.put, List.setIfInBounds_toArray, List.set_cons_zero, List.set_cons_succ]
      refine wpTill_take0 (i := 15) (oi := ⟨some 77, _, _, _, _, _⟩) (v := ?_) rfl (by kernel_rfl) (fun _ _ _ h => h) (Or.inl ⟨by rfl, ?_⟩) (fun _ => hHeld) ?_
      rotate_left
      · intro w hSw
        (try dsimp only at hSw)
        go_simp
        try with_reducible rfl
      try simp only [Act.put, List.setIfInBounds_toArray, List.set_cons_zero, List.set_cons_succ]
      refine wpTill_take0 (i := 16) (oi := ⟨some 78, _, _, _, _, _⟩) (v := partV oB 1 cB l hh) rfl (by kernel_rfl) (fun _ _ _ h => h) (Or.inl ⟨by rfl, ?_⟩) (fun _ => hHeld) ?_
      · intro w hSw
        refine Eq.trans (exec_part Try.underlying28 hi0 rfl rfl rfl rfl hlh hhc) ?_
        rw [hz1]
      try simp only [Act.put, List.setIfInBounds_toArray, List.set_cons_zero, List.set_cons_succ]
      refine wpTill_ready (rs := [17]) (by kernel_rfl) (by simp) ?_
      refine AllTill.cons (o := ⟨some 79, _, _, _, _, _⟩) rfl (fun K hK => ?_) AllTill.nil
      go_simp
      go_at_call 25
      refine (cloneB_any _ _ _ (by exact HP.out.below hb) (by exact hb.size) HPL.out).mono ?_
      rintro e W17 ⟨v12, og12, rfl, hs12, hg12, hx12⟩
      have hb := below_call hb hb.size hx12
      go_wp2_with fail
      refine hK.out _ _ (by exact HSof.out _ hb) (fun hHeld => ?_)
      clear hK K
      try simp only [Act.put, List.setIfInBounds_toArray, List.set_cons_zero, List.set_cons_succ]
      refine wpTill_ready (rs := [18]) (by kernel_rfl) (by simp) ?_
      refine AllTill.cons (o := ⟨some 12, _, _, _, _, _⟩) rfl (fun K hK => ?_) AllTill.nil
      go_simp
      refine hK.out _ _ (by exact HSof.out _ hb) (fun hHeld => ?_)
      clear hK K
      try simp only [Act.put, List.setIfInBounds_toArray, List.set_cons_zero, List.set_cons_succ]
      refine wpTill_done (by kernel_rfl) ?_ _
      go_wp2_with fail
      go_meet
      case rel => exact ⟨og12, hb, hs12, og_le hg12 (Nat.le_refl _)⟩
    case rest =>
      obtain ⟨og, hb2, hsv, hgv⟩ := hcut
      have HSV := Lib.hid hsv
      have HGV := Lib.hid (og_le hgv HB.out.size)
      have HB2 := Lib.hid (show Below w1.heap.size w1 wc from below_call (Below.refl _ _).drew (Nat.le_refl _) hb2)
      generalize wc = w2 at *
      have HO2 := Lib.hid (HO.out.below HB2.out)
      have HW2 := Lib.hid (show Went fp (OFp b c d ob oc od) w w2 from by
        rw [← HFP.out]
        exact (Went.first HB.out (Went.refl fp w1)).later HB2.out)
      have HGV2 := Lib.hid (show ∀ g, og = some g → w1.heap.size ≤ g from hgv)
      have HOL := Lib.hid HO.out.lt
      have c5 : w2.cell? ⟨b, 5, none⟩ = some (.pointer (some ⟨d, 0, none⟩)) := (cell_at HO2.out.blk 5).trans rfl
      clear hb2 hsv hgv HO HB2 HSof HP hl hhh
      go_wp2_with fail
      refine (cut_any d many od s.ys sent t _ (by exact HO2.out.sy) (by decide) (by decide) (by omega) (by omega) HO2.out.ok.ny (by have := HO2.out.ok.ly; omega)).mono ?_
      rintro e w3 ⟨rfl, ht3⟩
      have hu3 : Upd (OFp b c d ob oc od) w2 w3 := by
        obtain ⟨_, _, _, hu⟩ := ht3
        exact hu.mono (fun j _ q => by
          rcases q with rfl | q
          · exact .inr (.inr (.inl rfl))
          · exact .inr (.inr (.inr (.inr (.inr q)))))
      have HSV3 := Lib.hid (HSV.out.keeps hu3 (fun g hg q => by have := HGV2.out g hg; have := HOL.out g q; omega))
      rw [trim_all (by have := HCL.out; unfold many; omega)] at ht3
      have hm3 := om_turnD HO2.out HW2.out ht3 (cut_norm _ _ _ HO2.out.ok.ny) HCL.out
      obtain ⟨fp3, hoa3, hw3⟩ := hm3
      obtain ⟨vb3, ob3, c3', oc3, d3, od3, hO3, hfp3⟩ := hoa3
      rw [hfp3] at hw3
      have e2 : w3.cell? ⟨b, 2, none⟩ = some (.int .u64 len) := by rw [cell_at hO3.blk, ← HLE.out]; rfl
      obtain ⟨se, hse⟩ : ∃ se, s.sent = se := ⟨_, rfl⟩
      have hses : se ≤ 1099511627776 := by have h1 : s.sent ≤ s.B.length := hO3.ok.sent; have := HLE.out; omega
      have e3 : w3.cell? ⟨b, 3, none⟩ = some (.int .u64 se) := by rw [cell_at hO3.blk, ← hse]; rfl
      have f3 := free_at hO3.blk 3
      have hok3 := hO3.ok
      obtain ⟨z, hz⟩ : ∃ z, max se t = z := ⟨_, rfl⟩
      have hm4 : OM w (w3.setCell ⟨b, 3, none⟩ (.int .u64 z)) fp b { s with ys := cutRaw sent t s.ys, sent := z } := om_set (s' := { s with ys := cutRaw sent t s.ys, sent := z }) hO3 hw3 (Upd.refl _ _) ((Upd.refl (fun j => j = b) w3).setCell ⟨b, 3, none⟩ (.inl rfl) _) (set_at hO3.blk 3 _) hO3.row (.inl rfl) rfl rfl
        ⟨hok3.len, hok3.base, by show z ≤ s.B.length; have h1 : s.sent ≤ s.B.length := hok3.sent; have := HTL.out; have := HLE.out; omega, hok3.nx, hok3.ny, hok3.lx, hok3.ly, hok3.bys⟩
      have hbn : og ≠ some b := fun q => by have := HGV2.out b q; have := HOL.out b (.inl rfl); omega
      have HSV4 := Lib.hid (HSV3.out.keeps ((Upd.refl (fun j => j = b) w3).setCell ⟨b, 3, none⟩ (.inl rfl) (.int .u64 z)) (fun g hg q => hbn (by rw [hg, q])))
      have HM4 := Lib.hid hm4
      have HBN := Lib.hid hbn
      have HZ := Lib.hid (show max s.sent t = z by rw [hse]; exact hz)
      clear ht3 hu3 hw3 hO3 hfp3 hok3 hm4 HSV HSV3 HO2 HW2 hbn c5 hse
      have hzs : (se < t ∧ z = t) ∨ (t < se ∧ z = se) ∨ (se = t ∧ z = t) := by omega
      clear hz
      by_cases htl2 : t = len
      · subst htl2
        have HFI := Lib.hid (fun v w5 (hm : OM w w5 fp b (s.went sent t)) (hv : SlG encB 5 w5 v og ((s.B.drop sent).take (t - sent))) => ons_mk w fp b s sent t v og en (decide (t = t) && en) w5 (by simp) hm hv HGV.out)
        have HWN := Lib.hid (fun (hq : en = false) => went_no s sent t z HZ.out (by rw [HE.out, hq]; simp))
        have HWY := Lib.hid (fun (hq : en = true) => went_yes s sent t z HZ.out (by rw [HE.out, hq, HLE.out]; simp))
        rcases hzs with ⟨q1, rfl⟩ | ⟨q1, rfl⟩ | ⟨q1, rfl⟩
        all_goals try subst q1
        all_goals go_wp2_with fail
        all_goals (obtain ⟨fp4, hoa4, hwe4⟩ := HM4.out)
        all_goals (refine (oend_e b _ fp4 _ (by exact hoa4) (en := en) (by exact HE.out)).mono ?_)
        all_goals (rintro e w5 ⟨rfl, q, rfl⟩)
        all_goals (have HM5 := Lib.hid (HM4.out.drewN q))
        all_goals (have HSV5 := Lib.hid (HSV4.out.drewN q))
        all_goals clear hoa4 hwe4 HM4 HSV4
        all_goals generalize World.drewN _ q = w5 at *
        all_goals (obtain ⟨fp5, hoa5, hw5⟩ := HM5.out)
        all_goals (obtain ⟨vb5, ob5, c5', oc5, d5, od5, hO5, hfp5⟩ := hoa5)
        all_goals rw [hfp5] at hw5
        all_goals have f7 := free_at hO5.blk 7
        all_goals have f9 := free_at hO5.blk 9
        all_goals have e7 := cell_at hO5.blk 7
        all_goals have e9 := cell_at hO5.blk 9
        all_goals have e79 := cell_at (set_at hO5.blk 7 (.bool true)) 9
        all_goals simp only [List.getElem?_toArray, List.getElem?_cons_succ, List.getElem?_cons_zero, Array.setIfInBounds] at e7 e9 e79
        all_goals have f79 := free_at (set_at hO5.blk 7 (.bool true)) 9
        all_goals have HMY := Lib.hid (fun (hq : en = true) => show OM w ((w5.setCell ⟨b, 7, none⟩ (.bool true)).setCell ⟨b, 9, none⟩ (.bool false)) fp b (s.went sent _) from by
          rw [← HWY.out hq]
          exact om_set hO5 hw5 (Upd.refl _ _) (((Upd.refl (fun j => j = b) w5).setCell ⟨b, 7, none⟩ (.inl rfl) _).setCell ⟨b, 9, none⟩ (.inl rfl) _) (set_at (set_at hO5.blk 7 _) 9 _) hO5.row (.inl rfl) rfl rfl
            ⟨hO5.ok.len, hO5.ok.base, hO5.ok.sent, hO5.ok.nx, hO5.ok.ny, hO5.ok.lx, hO5.ok.ly, hO5.ok.bys⟩)
        all_goals have HSVY := Lib.hid (HSV5.out.keeps (((Upd.refl (fun j => j = b) w5).setCell ⟨b, 7, none⟩ (.inl rfl) (.bool true)).setCell ⟨b, 9, none⟩ (.inl rfl) (.bool false)) (fun g hg q => HBN.out (by rw [hg, q])))
        all_goals clear hO5 hw5 hfp5
        all_goals cases en
        all_goals go_wp2_with fail
        all_goals (try simp only [Exit.inBlock, Exit.then])
        all_goals (try simp only [Exit.inBlock, Exit.then])
        all_goals (refine bodyPost_ret (results_tmp4 rfl _ _ _) rfl ?_)
        all_goals first
          | exact ⟨_, rfl, (by rw [← HWN.out trivial]; exact HM5.out), og, HSV5.out, HGV.out⟩
          | exact ⟨_, rfl, HMY.out trivial, og, HSVY.out, HGV.out⟩
      · have htl3 : ¬ (t : Int) = len := by omega
        have htl4 : ((t : Int) == (len : Int)) = false := by rw [eqN]; simp [htl2]
        have HFI := Lib.hid (fun v w5 (hm : OM w w5 fp b (s.went sent t)) (hv : SlG encB 5 w5 v og ((s.B.drop sent).take (t - sent))) => ons_mk w fp b s sent t v og false (decide (t = len) && en) w5 (by simp [htl2]) hm hv HGV.out)
        have HWN := Lib.hid (went_no s sent t z HZ.out (by rw [HLE.out]; simp [htl2]))
        rcases hzs with ⟨q1, rfl⟩ | ⟨q1, rfl⟩ | ⟨q1, rfl⟩
        all_goals try subst q1
        all_goals go_wp2_with fail
        all_goals (try simp only [Exit.inBlock, Exit.then])
        all_goals refine bodyPost_ret (results_tmp4 rfl _ _ _) rfl ?_
        all_goals exact HFI.out _ _ (by rw [← HWN.out]; exact HM4.out) HSV4.out
end Go.Proofs.Ytkebjfaphmamjaa
