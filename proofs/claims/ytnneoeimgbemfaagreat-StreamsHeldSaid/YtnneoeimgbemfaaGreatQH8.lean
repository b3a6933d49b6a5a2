/- DERIVED. Walk of outbuf's Next, where a piece goes. -/
import Derived.Laws.Rows
import Derived.Deep.RegionWith
import Derived.Deep.CutBlock
import Derived.Deep.DeepCutAuto
import Derived.Test.YtnneoeimgbemfaaGreatQH2
import Derived.Test.YtnneoeimgbemfaaGreatQH4
import Derived.Test.YtnneoeimgbemfaaGreatQH5
import Derived.Test.YtnneoeimgbemfaaGreatQH6
import Derived.Test.YtnneoeimgbemfaaGreatQH7
set_option linter.all false
namespace Go.Proofs.YtnneoeimgbemfaaGreat
open Go.RowKit

/-- A piece goes. -/
def OS.went (s : OS) (f t : Nat) : OS := { s with sent := max s.sent t, ys := cutRaw f t s.ys, es := s.es || (decide (t = s.B.length) && s.ende), el := s.el && !(decide (t = s.B.length) && s.ende) }
theorem went_no (s : OS) (f t z : Nat) (hz : max s.sent t = z) (h : (decide (t = s.B.length) && s.ende) = false) : { s with ys := cutRaw f t s.ys, sent := z } = s.went f t := by
  unfold OS.went
  rw [h, hz]
  simp
theorem went_yes (s : OS) (f t z : Nat) (hz : max s.sent t = z) (h : (decide (t = s.B.length) && s.ende) = true) : { s with ys := cutRaw f t s.ys, sent := z, es := true, el := false } = s.went f t := by
  unfold OS.went
  rw [h, hz]
  simp
theorem ons_mk (w : World) (fp : Nat → Prop) (b : Nat) (s : OS) (sent t : Nat) (v : Value) (og : Option Nat) (en X : Bool) (w5 : World) (he : X = en) (hm : OM w w5 fp b (s.went sent t)) (hv : SlG encB 5 w5 v og ((s.B.drop sent).take (t - sent))) (hg : ∀ g, og = some g → w.heap.size ≤ g) :
    ∃ v' og', (Ending.returned (.tuple #[.int .u64 sent, v, .bool en, .bool true])) = .returned (.tuple #[.int .u64 sent, v', .bool X, .bool true]) ∧ OM w w5 fp b (s.went sent t) ∧ SlG encB 5 w5 v' og' ((s.B.drop sent).take (t - sent)) ∧ (∀ g, og' = some g → w.heap.size ≤ g) :=
  ⟨v, og, by rw [he], hm, hv, hg⟩
set_option maxRecDepth 100000 in
set_option maxHeartbeats 2000000 in
theorem onext_go (b : Nat) (s : OS) (fp : Nat → Prop) (most : Int) (limit sent t0 t : Nat) (w : World) (h : OAt w b s fp) (hlim : limit < 18446744073709551616) (hpt : s.part limit = (sent, t0)) (hbs : s.base ≤ sent) (hlt : sent < t) (ht : min t0 (sent + most.toNat) = t) (htl : t ≤ s.B.length) (hB : s.B.length ≤ 1000000000) (ht0 : t0 ≤ 1099511627776) (hcl : (cutRaw sent t s.ys).length ≤ 100000) (hm1 : -9223372036854775808 ≤ most) (hm : most ≤ 9223372036854775807) :
    Calls Tryz.prog 45 #[.pointer (some ⟨b, 0, none⟩), .int .i64 most, .int .u64 limit] w
      fun e w' => ∃ v og, e = .returned (.tuple #[.int .u64 sent, v, .bool (decide (t = s.B.length) && s.ende), .bool true]) ∧ OM w w' fp b (s.went sent t) ∧ SlG encB 5 w' v og ((s.B.drop sent).take (t - sent)) ∧ (∀ g, og = some g → w.heap.size ≤ g) := by
  obtain ⟨i0, hi0, hz0, hz1, hz2'⟩ := info_parts infoB
  have hlen := h.ok.len
  have hbl := h.ok.base
  have H := Lib.hid h
  have HPT := Lib.hid hpt
  obtain ⟨len, hln⟩ : ∃ len, s.B.length = len := ⟨_, rfl⟩
  obtain ⟨base, hbase⟩ : ∃ base, s.base = base := ⟨_, rfl⟩
  obtain ⟨en, hen⟩ : ∃ en, s.ende = en := ⟨_, rfl⟩
  obtain ⟨mo, hmo⟩ : ∃ mo, most.toNat = mo := ⟨_, rfl⟩
  have HLE := Lib.hid hln
  have HBA := Lib.hid hbase
  have HE := Lib.hid hen
  have HCL := Lib.hid hcl
  rw [hln] at hB
  rw [hln] at hlen hbl htl ⊢
  rw [hbase] at hbs hbl
  rw [hen]
  rw [hmo] at ht
  have hmos : (most : Int) = (mo : Int) ∧ 0 < most := by omega
  obtain ⟨hmo1, hmp⟩ := hmos
  subst hmo1
  have hmb : mo ≤ 9223372036854775807 := by omega
  clear h hpt hln hbase hen hcl hmo hm hm1
  have HTL := Lib.hid htl
  go_enter Tryz.func45, Tryz.ntmps45
  go_wp2_with fail
  refine (opart_any b s fp limit _ (by exact H.out) hlim HPT.out).mono ?_
  rintro e w1 ⟨rfl, hb⟩
  have HB := Lib.hid hb
  clear hb
  go_upto_region 2 with fail
  go_cut [11] (fun v wx => v = .int .u64 t ∧ wx = w1)
  case first =>
    have q2 : (0 : Int) < (mo : Int) := by omega
    have hwm : IntKind.u64.wrap (mo : Int) = mo := IntWalk.u64_in _ (by omega)
    obtain ⟨z, hz, hzt⟩ : ∃ z : Nat, (sent : Int) + (mo : Int) = (z : Int) ∧ sent + mo = z := ⟨sent + mo, by omega, rfl⟩
    have hzb : (z : Int) < 18446744073709551616 := by omega
    have hwz : IntKind.u64.wrap (z : Int) = z := IntWalk.u64_in _ (by omega)
    rw [hzt] at ht
    rcases (by omega : (z < t0 ∧ t = z) ∨ (t0 < z ∧ t = t0) ∨ (t0 = z ∧ t = t0)) with ⟨q1, q3⟩ | ⟨q1, q3⟩ | ⟨q1, q3⟩
    · subst q3
      clear ht hzt
      go_wp2_with fail
      go_meet
      case rel => exact ⟨rfl, rfl⟩
    · subst q3
      clear ht hzt
      go_wp2_with fail
      go_meet
      case rel => exact ⟨rfl, rfl⟩
    · subst q3
      subst q1
      clear ht hzt
      go_wp2_with fail
      go_meet
      case rel => exact ⟨rfl, rfl⟩
  case rest =>
    obtain ⟨rfl, rfl⟩ := hcut
    generalize wc = w1 at *
    have H1 := Lib.hid (H.out.below HB.out)
    obtain ⟨vb, ob, c, oc, d, od, hO, hfp⟩ := H1.out
    obtain ⟨oB, cB, e0, hcB, hcB2⟩ := hO.row.shape
    rw [List.length_drop, HLE.out, HBA.out] at e0 hcB
    obtain ⟨n0, hn0⟩ : ∃ n0, len - base = n0 := ⟨_, rfl⟩
    rw [hn0] at e0 hcB
    subst e0
    have HO := Lib.hid hO
    have HFP := Lib.hid hfp
    have hrv := (hO.row.vw encB_len).below (Below.refl _ _).drew
    obtain ⟨l, hl, hl2⟩ : ∃ l : Nat, (sent : Int) - (base : Int) = (l : Int) ∧ sent - base = l := ⟨sent - base, by omega, rfl⟩
    obtain ⟨hh, hhh, hhh2⟩ : ∃ hh : Nat, (t : Int) - (base : Int) = (hh : Int) ∧ t - base = hh := ⟨t - base, by omega, rfl⟩
    have hlh : l ≤ hh := by omega
    have hhc : hh ≤ cB := by omega
    have hlb : (l : Int) ≤ 1099511627776 := by omega
    have hsb : sent ≤ 1099511627776 := by omega
    have hsti : (sent : Int) < (t : Int) := by omega
    have htb : t ≤ 1099511627776 := by omega
    have hhb : (hh : Int) ≤ 1099511627776 := by omega
    have hwl : IntKind.u64.wrap (l : Int) = l := IntWalk.u64_in _ (by omega)
    have hwh : IntKind.u64.wrap (hh : Int) = hh := IntWalk.u64_in _ (by omega)
    have HP0 := hrv.mid encB_len hlh (show hh ≤ n0 by omega)
    have hpc : ((s.B.drop s.base).drop l).take (hh - l) = (s.B.drop sent).take (t - sent) := by
      rw [List.drop_drop, HBA.out, show base + l = sent by omega, show hh - l = t - sent by omega]
    rw [hpc] at HP0
    have HP := Lib.hid HP0
    have HPL := Lib.hid (show ((s.B.drop sent).take (t - sent)).length ≤ 1000000000 by rw [List.length_take]; omega)
    have hst : ¬ sent = t := by omega
    have HSof := Lib.hid (show ∀ W, Below w1.drew.heap.size w1.drew W → W.cell? ⟨b, 0, none⟩ = some (.slice oB n0 cB) ∧ W.cell? ⟨b, 1, none⟩ = some (.int .u64 base) from fun W h => by
      have hk := below_keeps h (show w1.drew.heap[b]? = _ from HO.out.blk) (heap_lt HO.out.blk)
      refine ⟨(cell_at hk 0).trans rfl, ?_⟩
      rw [cell_at hk, ← HBA.out]
      rfl)
    clear hO hfp hrv HP0 hpc hl2 hhh2 hn0 ht htl hlt
    go_upto_region 8 with fail
    go_cut [12] (fun v wx => ∃ og, Below w1.drew.heap.size w1.drew wx ∧ SlG encB 5 wx v og ((s.B.drop sent).take (t - sent)) ∧ ∀ g, og = some g → w1.drew.heap.size ≤ g)
    case first =>
      go_wp2_with fail
      have hb : Below w1.drew.heap.size w1.drew w1.drew := Below.refl _ _
      refine wp_region_till (S := fun w' => w'.cell? ⟨b, 0, none⟩ = some (.slice oB n0 cB) ∧ w'.cell? ⟨b, 1, none⟩ = some (.int .u64 base)) [] (by kernel_rfl) (by exact HSof.out _ hb) (fun hHeld => ?_)
      refine wpTill_take0 (i := 0) (oi := ⟨some 62, _, _, _, _, _⟩) (v := ?_) rfl (by kernel_rfl) (fun _ _ _ h => h) (Or.inl ⟨by rfl, ?_⟩) (fun _ => hHeld) ?_
      rotate_left
      · intro w hSw
        (try dsimp only at hSw)
        go_simp
        try with_reducible rfl
      try simp only [Act.put, List.setIfInBounds_toArray, List.set_cons_zero, List.set_cons_succ]
      refine wpTill_take0 (i := 1) (oi := ⟨some 63, _, _, _, _, _⟩) (v := ?_) rfl (by kernel_rfl) (fun _ _ _ h => h) (Or.inl ⟨by rfl, ?_⟩) (fun _ => hHeld) ?_
      rotate_left
      · intro w hSw
        (try dsimp only at hSw)
        go_simp
        try with_reducible rfl
      try simp only [Act.put, List.setIfInBounds_toArray, List.set_cons_zero, List.set_cons_succ]
      refine wpTill_take0 (i := 2) (oi := ⟨some 64, _, _, _, _, _⟩) (v := ?_) rfl (by kernel_rfl) (fun _ _ _ h => h) (Or.inl ⟨by rfl, ?_⟩) (fun _ => hHeld) ?_
      rotate_left
      · intro w hSw
        (try dsimp only at hSw)
        go_simp
        try with_reducible rfl
      try simp only [Act.put, List.setIfInBounds_toArray, List.set_cons_zero, List.set_cons_succ]
      refine wpTill_take (i := 3) (oi := ⟨some 65, _, _, _, _, _⟩) (v := ?_) rfl (by kernel_rfl) (fun _ _ _ h => h) (Or.inl ⟨by rfl, ?_⟩) (by exact hHeld) ?_
      rotate_left
      · intro w hSw
        (try dsimp only at hSw)
        go_simp
        try with_reducible rfl
      try simp only [Act.put, List.setIfInBounds_toArray, List.set_cons_zero, List.set_cons_succ]
      refine wpTill_take0 (i := 4) (oi := ⟨some 66, _, _, _, _, _⟩) (v := ?_) rfl (by kernel_rfl) (fun _ _ _ h => h) (Or.inl ⟨by rfl, ?_⟩) (fun _ => hHeld) ?_
      rotate_left
      · intro w hSw
        (try dsimp only at hSw)
        go_simp
        try with_reducible rfl
      try simp only [Act.put, List.setIfInBounds_toArray, List.set_cons_zero, List.set_cons_succ]
      refine wpTill_take0 (i := 5) (oi := ⟨some 67, _, _, _, _, _⟩) (v := ?_) rfl (by kernel_rfl) (fun _ _ _ h => h) (Or.inl ⟨by rfl, ?_⟩) (fun _ => hHeld) ?_
      rotate_left
      · intro w hSw
        (try dsimp only at hSw)
        go_simp
        try with_reducible rfl
      try simp only [Act.put, List.setIfInBounds_toArray, List.set_cons_zero, List.set_cons_succ]
      refine wpTill_take0 (i := 6) (oi := ⟨some 68, _, _, _, _, _⟩) (v := ?_) rfl (by kernel_rfl) (fun _ _ _ h => h) (Or.inl ⟨by rfl, ?_⟩) (fun _ => hHeld) ?_
      rotate_left
      · intro w hSw
        (try dsimp only at hSw)
        go_simp
        try with_reducible rfl
      try simp only [Act.put, List.setIfInBounds_toArray, List.set_cons_zero, List.set_cons_succ]
      refine wpTill_take0 (i := 7) (oi := ⟨some 69, _, _, _, _, _⟩) (v := ?_) rfl (by kernel_rfl) (fun _ _ _ h => h) (Or.inl ⟨by rfl, ?_⟩) (fun _ => hHeld) ?_
      rotate_left
      · intro w hSw
        (try dsimp only at hSw)
        go_simp
        try with_reducible rfl
      try simp only [Act.put, List.setIfInBounds_toArray, List.set_cons_zero, List.set_cons_succ]
      refine wpTill_take (i := 8) (oi := ⟨some 70, _, _, _, _, _⟩) (v := ?_) rfl (by kernel_rfl) (fun _ _ _ h => h) (Or.inl ⟨by rfl, ?_⟩) (by exact hHeld) ?_
      rotate_left
      · intro w hSw
        (try dsimp only at hSw)
        go_simp
        try with_reducible rfl
      try simp only [Act.put, List.setIfInBounds_toArray, List.set_cons_zero, List.set_cons_succ]
      refine wpTill_take0 (i := 9) (oi := ⟨some 71, _, _, _, _, _⟩) (v := ?_) rfl (by kernel_rfl) (fun _ _ _ h => h) (Or.inl ⟨by rfl, ?_⟩) (fun _ => hHeld) ?_
      rotate_left
      · intro w hSw
        (try dsimp only at hSw)
        go_simp
        try with_reducible rfl
      try simp only [Act.put, List.setIfInBounds_toArray, List.set_cons_zero, List.set_cons_succ]
      refine wpTill_take0 (i := 10) (oi := ⟨some 72, _, _, _, _, _⟩) (v := ?_) rfl (by kernel_rfl) (fun _ _ _ h => h) (Or.inl ⟨by rfl, ?_⟩) (fun _ => hHeld) ?_
      rotate_left
      · intro w hSw
        (try dsimp only at hSw)
        go_simp
        try with_reducible rfl
      try simp only [Act.put, List.setIfInBounds_toArray, List.set_cons_zero, List.set_cons_succ]
      refine wpTill_take0 (i := 11) (oi := ⟨some 73, _, _, _, _, _⟩) (v := ?_) rfl (by kernel_rfl) (fun _ _ _ h => h) (Or.inl ⟨by rfl, ?_⟩) (fun _ => hHeld) ?_
      rotate_left
      · intro w hSw
        (try dsimp only at hSw)
        go_simp
        try with_reducible rfl
      try simp only [Act.put, List.setIfInBounds_toArray, List.set_cons_zero, List.set_cons_succ]
      refine wpTill_take0 (i := 12) (oi := ⟨some 74, _, _, _, _, _⟩) (v := ?_) rfl (by kernel_rfl) (fun _ _ _ h => h) (Or.inl ⟨by rfl, ?_⟩) (fun _ => hHeld) ?_
      rotate_left
      · intro w hSw
        (try dsimp only at hSw)
        go_simp
        try with_reducible rfl
      try simp only [Act.put, List.setIfInBounds_toArray, List.set_cons_zero, List.set_cons_succ]
      refine wpTill_take0 (i := 13) (oi := ⟨some 75, _, _, _, _, _⟩) (v := ?_) rfl (by kernel_rfl) (fun _ _ _ h => h) (Or.inl ⟨by rfl, ?_⟩) (fun _ => hHeld) ?_
      rotate_left
      · intro w hSw
        (try dsimp only at hSw)
        go_simp
        try with_reducible rfl
      try simp only [Act.put, List.setIfInBounds_toArray, List.set_cons_zero, List.set_cons_succ]
      refine wpTill_take (i := 14) (oi := ⟨some 76, _, _, _, _, _⟩) (v := ?_) rfl (by kernel_rfl) (fun _ _ _ h => h) (Or.inl ⟨by rfl, ?_⟩) (by exact hHeld) ?_
      rotate_left
      · intro w hSw
        (try dsimp only at hSw)
        go_simp
        try with_reducible rfl
      try simp only [Act.put, List.setIfInBounds_toArray, List.set_cons_zero, List.set_cons_succ]
      refine wpTill_take0 (i := 15) (oi := ⟨some 77, _, _, _, _, _⟩) (v := ?_) rfl (by kernel_rfl) (fun _ _ _ h => h) (Or.inl ⟨by rfl, ?_⟩) (fun _ => hHeld) ?_
      rotate_left
      · intro w hSw
        (try dsimp only at hSw)
        go_simp
        try with_reducible rfl
      try simp only [Act.put, List.setIfInBounds_toArray, List.set_cons_zero, List.set_cons_succ]
      refine wpTill_take0 (i := 16) (oi := ⟨some 78, _, _, _, _, _⟩) (v := partV oB 1 cB l hh) rfl (by kernel_rfl) (fun _ _ _ h => h) (Or.inl ⟨by rfl, ?_⟩) (fun _ => hHeld) ?_
      · intro w hSw
        refine Eq.trans (exec_part Tryz.underlying31 hi0 rfl rfl rfl rfl hlh hhc) ?_
        rw [hz1]
      try simp only [Act.put, List.setIfInBounds_toArray, List.set_cons_zero, List.set_cons_succ]
      refine wpTill_ready (rs := [17]) (by kernel_rfl) (by simp) ?_
      refine AllTill.cons (o := ⟨some 79, _, _, _, _, _⟩) rfl (fun K hK => ?_) AllTill.nil
      go_simp
      go_at_call 65
      refine (cloneB_any _ _ _ (by exact HP.out.below hb) (by exact hb.size) HPL.out).mono ?_
      rintro e W17 ⟨v12, og12, rfl, hs12, hg12, hx12⟩
      have hb := below_call hb hb.size hx12
      go_wp2_with fail
      refine hK.out _ _ (by exact HSof.out _ hb) (fun hHeld => ?_)
      clear hK K
      try simp only [Act.put, List.setIfInBounds_toArray, List.set_cons_zero, List.set_cons_succ]
      refine wpTill_ready (rs := [18]) (by kernel_rfl) (by simp) ?_
      refine AllTill.cons (o := ⟨some 12, _, _, _, _, _⟩) rfl (fun K hK => ?_) AllTill.nil
      go_simp
      refine hK.out _ _ (by exact HSof.out _ hb) (fun hHeld => ?_)
      clear hK K
      try simp only [Act.put, List.setIfInBounds_toArray, List.set_cons_zero, List.set_cons_succ]
      refine wpTill_done (by kernel_rfl) ?_ _
      go_wp2_with fail
      go_meet
      case rel => exact ⟨og12, hb, hs12, og_le hg12 (Nat.le_refl _)⟩
    case rest =>
      obtain ⟨og, hb2, hsv, hgv⟩ := hcut
      have HSV := Lib.hid hsv
      have HGV := Lib.hid (og_le hgv HB.out.size)
      have HB2 := Lib.hid (show Below w1.heap.size w1 wc from below_call (Below.refl _ _).drew (Nat.le_refl _) hb2)
      generalize wc = w2 at *
      have HO2 := Lib.hid (HO.out.below HB2.out)
      have HW2 := Lib.hid (show Went fp (OFp b c d ob oc od) w w2 from by
        rw [← HFP.out]
        exact (Went.first HB.out (Went.refl fp w1)).later HB2.out)
      have HGV2 := Lib.hid (show ∀ g, og = some g → w1.heap.size ≤ g from hgv)
      have HOL := Lib.hid HO.out.lt
      have c5 : w2.cell? ⟨b, 5, none⟩ = some (.pointer (some ⟨d, 0, none⟩)) := (cell_at HO2.out.blk 5).trans rfl
      clear hb2 hsv hgv HO HB2 HSof HP hl hhh
      go_wp2_with fail
      refine (cut_any d many od s.ys sent t _ (by exact HO2.out.sy) (by decide) (by decide) (by omega) (by omega) HO2.out.ok.ny (by have := HO2.out.ok.ly; omega)).mono ?_
      rintro e w3 ⟨rfl, ht3⟩
      have hu3 : Upd (OFp b c d ob oc od) w2 w3 := by
        obtain ⟨_, _, _, hu⟩ := ht3
        exact hu.mono (fun j _ q => by
          rcases q with rfl | q
          · exact .inr (.inr (.inl rfl))
          · exact .inr (.inr (.inr (.inr (.inr q)))))
      have HSV3 := Lib.hid (HSV.out.keeps hu3 (fun g hg q => by have := HGV2.out g hg; have := HOL.out g q; omega))
      rw [trim_all (by have := HCL.out; unfold many; omega)] at ht3
      have hm3 := om_turnD HO2.out HW2.out ht3 (cut_norm _ _ _ HO2.out.ok.ny) HCL.out
      obtain ⟨fp3, hoa3, hw3⟩ := hm3
      obtain ⟨vb3, ob3, c3', oc3, d3, od3, hO3, hfp3⟩ := hoa3
      rw [hfp3] at hw3
      have e2 : w3.cell? ⟨b, 2, none⟩ = some (.int .u64 len) := by rw [cell_at hO3.blk, ← HLE.out]; rfl
      obtain ⟨se, hse⟩ : ∃ se, s.sent = se := ⟨_, rfl⟩
      have hses : se ≤ 1099511627776 := by have h1 : s.sent ≤ s.B.length := hO3.ok.sent; have := HLE.out; omega
      have e3 : w3.cell? ⟨b, 3, none⟩ = some (.int .u64 se) := by rw [cell_at hO3.blk, ← hse]; rfl
      have f3 := free_at hO3.blk 3
      have hok3 := hO3.ok
      obtain ⟨z, hz⟩ : ∃ z, max se t = z := ⟨_, rfl⟩
      have hm4 : OM w (w3.setCell ⟨b, 3, none⟩ (.int .u64 z)) fp b { s with ys := cutRaw sent t s.ys, sent := z } := om_set (s' := { s with ys := cutRaw sent t s.ys, sent := z }) hO3 hw3 (Upd.refl _ _) ((Upd.refl (fun j => j = b) w3).setCell ⟨b, 3, none⟩ (.inl rfl) _) (set_at hO3.blk 3 _) hO3.row (.inl rfl) rfl rfl
        ⟨hok3.len, hok3.base, by show z ≤ s.B.length; have h1 : s.sent ≤ s.B.length := hok3.sent; have := HTL.out; have := HLE.out; omega, hok3.nx, hok3.ny, hok3.lx, hok3.ly, hok3.bys⟩
      have hbn : og ≠ some b := fun q => by have := HGV2.out b q; have := HOL.out b (.inl rfl); omega
      have HSV4 := Lib.hid (HSV3.out.keeps ((Upd.refl (fun j => j = b) w3).setCell ⟨b, 3, none⟩ (.inl rfl) (.int .u64 z)) (fun g hg q => hbn (by rw [hg, q])))
      have HM4 := Lib.hid hm4
      have HBN := Lib.hid hbn
      have HZ := Lib.hid (show max s.sent t = z by rw [hse]; exact hz)
      clear ht3 hu3 hw3 hO3 hfp3 hok3 hm4 HSV HSV3 HO2 HW2 hbn c5 hse
      have hzs : (se < t ∧ z = t) ∨ (t < se ∧ z = se) ∨ (se = t ∧ z = t) := by omega
      clear hz
      by_cases htl2 : t = len
      · subst htl2
        have HFI := Lib.hid (fun v w5 (hm : OM w w5 fp b (s.went sent t)) (hv : SlG encB 5 w5 v og ((s.B.drop sent).take (t - sent))) => ons_mk w fp b s sent t v og en (decide (t = t) && en) w5 (by simp) hm hv HGV.out)
        have HWN := Lib.hid (fun (hq : en = false) => went_no s sent t z HZ.out (by rw [HE.out, hq]; simp))
        have HWY := Lib.hid (fun (hq : en = true) => went_yes s sent t z HZ.out (by rw [HE.out, hq, HLE.out]; simp))
        rcases hzs with ⟨q1, rfl⟩ | ⟨q1, rfl⟩ | ⟨q1, rfl⟩
        all_goals try subst q1
        all_goals go_wp2_with fail
        all_goals (obtain ⟨fp4, hoa4, hwe4⟩ := HM4.out)
        all_goals (refine (oend_e b _ fp4 _ (by exact hoa4) (en := en) (by exact HE.out)).mono ?_)
        all_goals (rintro e w5 ⟨rfl, q, rfl⟩)
        all_goals (have HM5 := Lib.hid (HM4.out.drewN q))
        all_goals (have HSV5 := Lib.hid (HSV4.out.drewN q))
        all_goals clear hoa4 hwe4 HM4 HSV4
        all_goals generalize World.drewN _ q = w5 at *
        all_goals (obtain ⟨fp5, hoa5, hw5⟩ := HM5.out)
        all_goals (obtain ⟨vb5, ob5, c5', oc5, d5, od5, hO5, hfp5⟩ := hoa5)
        all_goals rw [hfp5] at hw5
        all_goals have f7 := free_at hO5.blk 7
        all_goals have f9 := free_at hO5.blk 9
        all_goals have e7 := cell_at hO5.blk 7
        all_goals have e9 := cell_at hO5.blk 9
        all_goals have e79 := cell_at (set_at hO5.blk 7 (.bool true)) 9
        all_goals simp only [List.getElem?_toArray, List.getElem?_cons_succ, List.getElem?_cons_zero, Array.setIfInBounds] at e7 e9 e79
        all_goals have f79 := free_at (set_at hO5.blk 7 (.bool true)) 9
        all_goals have HMY := Lib.hid (fun (hq : en = true) => show OM w ((w5.setCell ⟨b, 7, none⟩ (.bool true)).setCell ⟨b, 9, none⟩ (.bool false)) fp b (s.went sent _) from by
          rw [← HWY.out hq]
          exact om_set hO5 hw5 (Upd.refl _ _) (((Upd.refl (fun j => j = b) w5).setCell ⟨b, 7, none⟩ (.inl rfl) _).setCell ⟨b, 9, none⟩ (.inl rfl) _) (set_at (set_at hO5.blk 7 _) 9 _) hO5.row (.inl rfl) rfl rfl
            ⟨hO5.ok.len, hO5.ok.base, hO5.ok.sent, hO5.ok.nx, hO5.ok.ny, hO5.ok.lx, hO5.ok.ly, hO5.ok.bys⟩)
        all_goals have HSVY := Lib.hid (HSV5.out.keeps (((Upd.refl (fun j => j = b) w5).setCell ⟨b, 7, none⟩ (.inl rfl) (.bool true)).setCell ⟨b, 9, none⟩ (.inl rfl) (.bool false)) (fun g hg q => HBN.out (by rw [hg, q])))
        all_goals clear hO5 hw5 hfp5
        all_goals cases en
        all_goals go_wp2_with fail
        all_goals (try simp only [Exit.inBlock, Exit.then])
        all_goals (try simp only [Exit.inBlock, Exit.then])
        all_goals (refine bodyPost_ret (results_tmp4 rfl _ _ _) rfl ?_)
        all_goals first
          | exact ⟨_, rfl, (by rw [← HWN.out trivial]; exact HM5.out), og, HSV5.out, HGV.out⟩
          | exact ⟨_, rfl, HMY.out trivial, og, HSVY.out, HGV.out⟩
      · have htl3 : ¬ (t : Int) = len := by omega
        have htl4 : ((t : Int) == (len : Int)) = false := by rw [eqN]; simp [htl2]
        have HFI := Lib.hid (fun v w5 (hm : OM w w5 fp b (s.went sent t)) (hv : SlG encB 5 w5 v og ((s.B.drop sent).take (t - sent))) => ons_mk w fp b s sent t v og false (decide (t = len) && en) w5 (by simp [htl2]) hm hv HGV.out)
        have HWN := Lib.hid (went_no s sent t z HZ.out (by rw [HLE.out]; simp [htl2]))
        rcases hzs with ⟨q1, rfl⟩ | ⟨q1, rfl⟩ | ⟨q1, rfl⟩
        all_goals try subst q1
        all_goals go_wp2_with fail
        all_goals (try simp only [Exit.inBlock, Exit.then])
        all_goals refine bodyPost_ret (results_tmp4 rfl _ _ _) rfl ?_
        all_goals exact HFI.out _ _ (by rw [← HWN.out]; exact HM4.out) HSV4.out
end Go.Proofs.YtnneoeimgbemfaaGreat

/- DERIVED. The sender: plain, in memory. -/
namespace Go.Proofs.YtnneoeimgbemfaaGreat
open Go.RowKit

/-- A Reset frame, or the zero one. -/
def resetF (id : Nat) : Option (Nat × Nat) → Fr
  | none => ⟨0, 0, 0, .slice none 0 0, false, 0, 0, 0, 0, 0, .slice none 0 0, 0, 0, 0, 0, 0, 0, 0, 0⟩
  | some x => ⟨4, id, 0, .slice none 0 0, false, 0, x.1, x.2, 0, 0, .slice none 0 0, 0, 0, 0, 0, 0, 0, 0, 0⟩
structure SS where
  id : Nat
  st : Nat
  lim : Nat
  rs : Option (Nat × Nat)
  rq : Bool
  os : OS
def SS.new (id : Nat) : SS := ⟨id, 1, 0, none, false, OS.zero⟩
def SS.closed (s : SS) : Bool := s.os.fi || decide (5 ≤ s.st)
structure SS.Ok (s : SS) : Prop where
  id : s.id < 18446744073709551616
  st : 1 ≤ s.st ∧ s.st ≤ 6
  lim : s.lim < 18446744073709551616
  rs : ∀ x, s.rs = some x → x.1 < 18446744073709551616 ∧ x.2 < 18446744073709551616
def scells (s : SS) (b : Nat) (f : Fr) : Array Value := #[.int .u64 s.id, .int .i64 s.st, .bool s.os.fi, .int .u64 s.lim,
  .int .i64 f.kd, .int .u64 f.sid, .int .u64 f.off, f.vd, .bool f.fin, .int .u64 f.lim, .int .u64 f.code, .int .u64 f.fnl, .int .u64 f.seq, .int .u64 f.dly, f.vr,
  .int .u8 f.c0, .int .u8 f.c1, .int .u8 f.c2, .int .u8 f.c3, .int .u8 f.c4, .int .u8 f.c5, .int .u8 f.c6, .int .u8 f.c7, .bool s.rq, .pointer (some ⟨b, 0, none⟩)]
structure SdAt0 (w : World) (r : Nat) (s : SS) (b : Nat) (fb : Nat → Prop) : Prop where
  blk : w.heap[r]? = some (.cells (scells s b (resetF s.id s.rs)) 91 (0, 0))
  buf : OAt w b s.os fb
  ne : ¬ fb r
  ok : s.Ok
def SdAt (w : World) (r : Nat) (s : SS) (fp : Nat → Prop) : Prop := ∃ b fb, SdAt0 w r s b fb ∧ fp = fun j => j = r ∨ fb j
theorem SdAt.keeps {F fp : Nat → Prop} {w w' : World} {r : Nat} {s : SS} (h : SdAt w r s fp) (hu : Upd F w w') (hF : ∀ k, fp k → ¬ F k) : SdAt w' r s fp := by
  obtain ⟨b, fb, h, rfl⟩ := h
  exact ⟨b, fb, ⟨hu.keeps h.blk (hF r (.inl rfl)), h.buf.keeps hu (fun k hk => hF k (.inr hk)), h.ne, h.ok⟩, rfl⟩
theorem SdAt.lt {fp : Nat → Prop} {w : World} {r : Nat} {s : SS} (h : SdAt w r s fp) : fp r ∧ ∀ k, fp k → k < w.heap.size := by
  obtain ⟨b, fb, h, rfl⟩ := h
  refine ⟨.inl rfl, ?_⟩
  rintro k (rfl | hk)
  · exact heap_lt h.blk
  · exact h.buf.lt.2 k hk
theorem SdAt.below {fp : Nat → Prop} {w w' : World} {r : Nat} {s : SS} (h : SdAt w r s fp) (hb : Below w.heap.size w w') : SdAt w' r s fp :=
  h.keeps (Upd.below hb) (fun k hk => by have := h.lt.2 k hk; omega)
theorem SdAt.drewN {fp : Nat → Prop} {w : World} {r : Nat} {s : SS} (h : SdAt w r s fp) (n : Nat) : SdAt (w.drewN n) r s fp := h.below (below_drewN (Below.refl _ _) n)
theorem SdAt.ok {fp : Nat → Prop} {w : World} {r : Nat} {s : SS} (h : SdAt w r s fp) : s.Ok := by
  obtain ⟨b, fb, h, _⟩ := h
  exact h.ok
theorem SdAt.oOk {fp : Nat → Prop} {w : World} {r : Nat} {s : SS} (h : SdAt w r s fp) : s.os.Ok := by
  obtain ⟨b, fb, h, _⟩ := h
  exact h.buf.ok
theorem SdAt.cells {fp : Nat → Prop} {w : World} {r : Nat} {s : SS} (h : SdAt w r s fp) : w.cell? ⟨r, 0, none⟩ = some (.int .u64 s.id) ∧ w.cell? ⟨r, 1, none⟩ = some (.int .i64 s.st) ∧ w.cell? ⟨r, 2, none⟩ = some (.bool s.os.fi) ∧ w.cell? ⟨r, 3, none⟩ = some (.int .u64 s.lim) ∧
    w.cell? ⟨r, 23, none⟩ = some (.bool s.rq) := by
  obtain ⟨b, fb, h, _⟩ := h
  exact ⟨(cell_at h.blk 0).trans rfl, (cell_at h.blk 1).trans rfl, (cell_at h.blk 2).trans rfl, (cell_at h.blk 3).trans rfl, (cell_at h.blk 23).trans rfl⟩
theorem SdAt.ptr {fp : Nat → Prop} {w : World} {r : Nat} {s : SS} (h : SdAt w r s fp) : ∃ b fb, OAt w b s.os fb ∧ (∀ j, fb j → fp j) ∧ ¬ fb r ∧ w.cell? ⟨r, 24, none⟩ = some (.pointer (some ⟨b, 0, none⟩)) := by
  obtain ⟨b, fb, h, rfl⟩ := h
  exact ⟨b, fb, h.buf, fun j hj => .inr hj, h.ne, (cell_at h.blk 24).trans rfl⟩
/-- What a call turns: the sender is as s', its blocks are those of the call's beginning, or new. -/
def SdM (w0 w : World) (fp : Nat → Prop) (r : Nat) (s : SS) : Prop := ∃ fp', SdAt w r s fp' ∧ Went fp fp' w0 w
theorem SdM.refl {w : World} {fp : Nat → Prop} {r : Nat} {s : SS} (h : SdAt w r s fp) : SdM w w fp r s := ⟨fp, h, Went.refl _ _⟩
theorem SdM.later {w0 w w' : World} {fp : Nat → Prop} {r : Nat} {s : SS} (h : SdM w0 w fp r s) (hb : Below w.heap.size w w') : SdM w0 w' fp r s := by
  obtain ⟨fp', h1, h2⟩ := h
  exact ⟨fp', h1.below hb, h2.later hb⟩
theorem SdM.drewN {w0 w : World} {fp : Nat → Prop} {r : Nat} {s : SS} (h : SdM w0 w fp r s) (n : Nat) : SdM w0 (w.drewN n) fp r s := h.later (below_drewN (Below.refl _ _) n)
theorem SdM.drew {w0 w : World} {fp : Nat → Prop} {r : Nat} {s : SS} (h : SdM w0 w fp r s) : SdM w0 w.drew fp r s := h.later (Below.refl _ _).drew
/-- All of new blocks, from a beginning on. -/
def SdMine (W w : World) (r : Nat) (s : SS) : Prop := ∃ fp, SdAt w r s fp ∧ (∀ k, fp k → W.heap.size ≤ k) ∧ Below W.heap.size W w
theorem SdMine.below {W w : World} {r : Nat} {s : SS} (h : SdMine W w r s) : Below W.heap.size W w := by
  obtain ⟨_, _, _, h⟩ := h
  exact h
theorem SdMine.later {W w w' : World} {r : Nat} {s : SS} (h : SdMine W w r s) (hb : Below w.heap.size w w') : SdMine W w' r s := by
  obtain ⟨fp, h1, h2, h3⟩ := h
  exact ⟨fp, h1.below hb, h2, below_call h3 h3.size hb⟩
theorem SdMine.drewN {W w : World} {r : Nat} {s : SS} (h : SdMine W w r s) (n : Nat) : SdMine W (w.drewN n) r s := h.later (below_drewN (Below.refl _ _) n)
theorem sdm_mine {W w w' : World} {r : Nat} {s' : SS} {fp : Nat → Prop} (hn : ∀ k, fp k → W.heap.size ≤ k) (hb : Below W.heap.size W w) (m : SdM w w' fp r s') : SdMine W w' r s' := by
  obtain ⟨fp', h1, h2⟩ := m
  have hs := hb.size
  exact ⟨fp', h1, fun k hk => by
    rcases h2.new k hk with q | q
    · exact hn k q
    · omega, Upd.belowOf hb h2.upd (fun k hk q => by have := hn k q; omega)⟩
/-- The buffer turned, and then cells of the sender's own block: as s'. -/
theorem sdm_of {w w1 w2 : World} {r : Nat} {s s' : SS} {b : Nat} {fb fp : Nat → Prop} (h : SdAt0 w r s b fb) (hfp : fp = fun j => j = r ∨ fb j) (m : OM w w1 fb b s'.os) (hu : Upd (fun j => j = r) w1 w2)
    (hc : w2.heap[r]? = some (.cells (scells s' b (resetF s'.id s'.rs)) 91 (0, 0))) (ok : s'.Ok) : SdM w w2 fp r s' := by
  obtain ⟨fb', h1, h2⟩ := m
  have hrw := heap_lt h.blk
  have hne : ¬ fb' r := fun q => by
    rcases h2.new r q with e | e
    · exact h.ne e
    · omega
  subst hfp
  refine ⟨fun j => j = r ∨ fb' j, ⟨b, fb', ⟨hc, h1.keeps hu (fun k hk e => hne (e ▸ hk)), hne, ok⟩, rfl⟩, ⟨?_, ?_⟩⟩
  · exact (h2.upd.mono (fun k _ hk => .inr hk)).trans hu (fun _ _ hk => hk) (fun i hi q => .inl q)
  · rintro g (rfl | hg)
    · exact .inl (.inl rfl)
    · rcases h2.new g hg with e | e
      · exact .inl (.inr e)
      · exact .inr e
/-- Cells of the sender's own block, the buffer turned, and cells again: as s'. -/
theorem sdm_two {w w1 w2 w3 : World} {r : Nat} {s s' : SS} {b : Nat} {fb fp : Nat → Prop} (h : SdAt0 w r s b fb) (hfp : fp = fun j => j = r ∨ fb j) (hu1 : Upd (fun j => j = r) w w1) (m : OM w1 w2 fb b s'.os) (hu : Upd (fun j => j = r) w2 w3)
    (hc : w3.heap[r]? = some (.cells (scells s' b (resetF s'.id s'.rs)) 91 (0, 0))) (ok : s'.Ok) : SdM w w3 fp r s' := by
  obtain ⟨fb', h1, h2⟩ := m
  have hrw := heap_lt h.blk
  have hs1 := hu1.size
  have hne : ¬ fb' r := fun q => by
    rcases h2.new r q with e | e
    · exact h.ne e
    · omega
  subst hfp
  refine ⟨fun j => j = r ∨ fb' j, ⟨b, fb', ⟨hc, h1.keeps hu (fun k hk e => hne (e ▸ hk)), hne, ok⟩, rfl⟩, ⟨?_, ?_⟩⟩
  · exact ((hu1.mono (fun k _ hk => .inl hk)).trans (h2.upd.mono (fun k _ hk => .inr hk)) (fun _ _ hk => hk) (fun _ _ hk => hk)).trans hu (fun _ _ hk => hk) (fun i hi q => .inl q)
  · rintro g (rfl | hg)
    · exact .inl (.inl rfl)
    · rcases h2.new g hg with e | e
      · exact .inl (.inr e)
      · right; omega
theorem SdAt0.own {w w1 : World} {r : Nat} {s : SS} {b : Nat} {fb : Nat → Prop} (h : SdAt0 w r s b fb) (hu1 : Upd (fun j => j = r) w w1) : OAt w1 b s.os fb :=
  h.buf.keeps hu1 (fun k hk e => h.ne (e ▸ hk))
/-- The block behind a turn of the buffer. -/
theorem SdAt0.later {w w1 : World} {r : Nat} {s : SS} {b : Nat} {fb : Nat → Prop} {o : OS} (h : SdAt0 w r s b fb) (m : OM w w1 fb b o) : w1.heap[r]? = some (.cells (scells s b (resetF s.id s.rs)) 91 (0, 0)) := by
  obtain ⟨fb', h1, h2⟩ := m
  exact h2.upd.keeps h.blk h.ne
theorem SdM.trans {w0 w w' : World} {fp : Nat → Prop} {r : Nat} {s s' : SS} (m : SdM w0 w fp r s) (h : ∀ fp', SdAt w r s fp' → SdM w w' fp' r s') : SdM w0 w' fp r s' := by
  obtain ⟨fp', h1, h2⟩ := m
  obtain ⟨fp2, h3, h4⟩ := h fp' h1
  exact ⟨fp2, h3, h2.trans h4⟩
theorem SdAt.setSt {w : World} {fp : Nat → Prop} {r : Nat} {s : SS} (h : SdAt w r s fp) (k : Nat) (hk : 1 ≤ k ∧ k ≤ 6) : SdM w (w.setCell ⟨r, 1, none⟩ (.int .i64 k)) fp r { s with st := k } := by
  obtain ⟨b, fb, h0, hfp⟩ := h
  exact sdm_of (s' := { s with st := k }) h0 hfp (OM.refl h0.buf) ((Upd.refl (fun j => j = r) w).setCell ⟨r, 1, none⟩ (.inl rfl) _) (set_at h0.blk 1 _) ⟨h0.ok.id, hk, h0.ok.lim, h0.ok.rs⟩
theorem SdAt.setRq {w : World} {fp : Nat → Prop} {r : Nat} {s : SS} (h : SdAt w r s fp) (x : Bool) : SdM w (w.setCell ⟨r, 23, none⟩ (.bool x)) fp r { s with rq := x } := by
  obtain ⟨b, fb, h0, hfp⟩ := h
  exact sdm_of (s' := { s with rq := x }) h0 hfp (OM.refl h0.buf) ((Upd.refl (fun j => j = r) w).setCell ⟨r, 23, none⟩ (.inl rfl) _) (set_at h0.blk 23 _) ⟨h0.ok.id, h0.ok.st, h0.ok.lim, h0.ok.rs⟩
theorem SdM.setSt {w0 w : World} {fp : Nat → Prop} {r : Nat} {s : SS} (h : SdM w0 w fp r s) (k : Nat) (hk : 1 ≤ k ∧ k ≤ 6) : SdM w0 (w.setCell ⟨r, 1, none⟩ (.int .i64 k)) fp r { s with st := k } := h.trans fun _ h => h.setSt k hk
theorem SdM.setRq {w0 w : World} {fp : Nat → Prop} {r : Nat} {s : SS} (h : SdM w0 w fp r s) (x : Bool) : SdM w0 (w.setCell ⟨r, 23, none⟩ (.bool x)) fp r { s with rq := x } := h.trans fun _ h => h.setRq x
theorem SdM.cell1 {w0 w : World} {fp : Nat → Prop} {r : Nat} {s : SS} (h : SdM w0 w fp r s) : w.cell? ⟨r, 1, none⟩ = some (.int .i64 s.st) ∧ w.frozen? ⟨r, 1, none⟩ = false ∧ w.cell? ⟨r, 23, none⟩ = some (.bool s.rq) ∧ w.frozen? ⟨r, 23, none⟩ = false := by
  obtain ⟨fp', ⟨b, fb, h0, _⟩, _⟩ := h
  exact ⟨(cell_at h0.blk 1).trans rfl, free_at h0.blk 1, (cell_at h0.blk 23).trans rfl, free_at h0.blk 23⟩
theorem SdM.ptr {w0 w : World} {fp : Nat → Prop} {r : Nat} {s : SS} (h : SdM w0 w fp r s) : ∃ b fb, OAt w b s.os fb ∧ w.cell? ⟨r, 24, none⟩ = some (.pointer (some ⟨b, 0, none⟩)) := by
  obtain ⟨fp', h1, _⟩ := h
  obtain ⟨b, fb, h2, _, _, h3⟩ := h1.ptr
  exact ⟨b, fb, h2, h3⟩
end Go.Proofs.YtnneoeimgbemfaaGreat

/- DERIVED. Walks of sender's New, State, Sent, Length, closed, Write, Finish, Limit. -/
namespace Go.Proofs.YtnneoeimgbemfaaGreat
open Go.RowKit

set_option maxRecDepth 100000 in
set_option maxHeartbeats 1000000 in
theorem sdnew_any (id : Nat) (w : World) (hid : id < 18446744073709551616) :
    Calls Tryz.prog 37 #[.int .u64 id] w fun e w' => ∃ r, e = .returned (.pointer (some ⟨r, 0, none⟩)) ∧ SdMine w w' r (SS.new id) := by
  have HB := Lib.hid hid
  go_enter Tryz.func37, Tryz.ntmps37
  go_wp2_with fail
  refine (onew_any _).mono ?_
  rintro e w1 ⟨b, fp, rfl, hi, hn, hb⟩
  have HI := Lib.hid (And.intro hi (And.intro hn hb))
  clear hi hn hb
  go_wp2_with fail
  go_ret
  obtain ⟨hi, hn, hb⟩ := HI.out
  have hlt := hi.lt.2
  refine ⟨w1.heap.size, rfl, _, ⟨b, fp, ⟨?_, hi.below ((Below.refl _ _).alloc (Nat.le_refl _) _), fun q => by have := hlt _ q; omega, ⟨HB.out, ⟨by show 1 ≤ 1; omega, by show 1 ≤ 6; omega⟩, by show 0 < _; omega, fun x hx => by cases hx⟩⟩, rfl⟩, ?_, hb.alloc hb.size _⟩
  · exact (alloc_at _ _).trans rfl
  · rintro k (rfl | q)
    · exact hb.size
    · exact hn k q
set_option maxHeartbeats 1000000 in
theorem ssent_q (r : Nat) (s : SS) (fp : Nat → Prop) (w : World) (h : SdAt w r s fp) : Calls Tryz.prog 35 #[.pointer (some ⟨r, 0, none⟩)] w fun e w' => e = .returned (.int .u64 s.os.sent) ∧ ∃ n, w' = w.drewN n := by
  obtain ⟨b, fb, hb, _, _, c⟩ := h.ptr
  have HB := Lib.hid hb
  clear h hb
  go_enter Tryz.func35, Tryz.ntmps35
  go_wp2_with fail
  refine (osent_q b s.os fb _ (by exact HB.out)).mono ?_
  rintro e w1 ⟨rfl, q, rfl⟩
  go_wp2_with fail
  go_ret
  exact ⟨rfl, q, rfl⟩
set_option maxHeartbeats 1000000 in
theorem sclosed_q (r : Nat) (s : SS) (fp : Nat → Prop) (w : World) (h : SdAt w r s fp) : Calls Tryz.prog 40 #[.pointer (some ⟨r, 0, none⟩)] w fun e w' => e = .returned (.bool s.closed) ∧ ∃ n, w' = w.drewN n := by
  obtain ⟨_, c1, c2, _⟩ := h.cells
  clear h
  unfold SS.closed
  generalize s.st = st at *
  generalize s.os.fi = fi at *
  cases fi
  · go_enter Tryz.func40, Tryz.ntmps40
    go_wp2_with fail
    go_ret
    refine ⟨?_, 0, rfl⟩
    congr 2
    simp
    try omega
  · go_enter Tryz.func40, Tryz.ntmps40
    go_wp2_with fail
    go_ret
    exact ⟨rfl, 0, rfl⟩
set_option maxHeartbeats 1000000 in
theorem slimit_any (r : Nat) (s : SS) (fp : Nat → Prop) (n : Nat) (w : World) (h : SdAt w r s fp) (hn : n < 18446744073709551616) :
    Calls Tryz.prog 29 #[.pointer (some ⟨r, 0, none⟩), .int .u64 n] w fun e w' => e = .returned (.tuple #[]) ∧ SdM w w' fp r { s with lim := max s.lim n } := by
  obtain ⟨_, _, _, c3, _⟩ := h.cells
  obtain ⟨b, fb, h0, hfp⟩ := h
  have hl := h0.ok.lim
  have f3 := free_at h0.blk 3
  obtain ⟨m, hm, hm2⟩ : ∃ m, max s.lim n = m ∧ m < 18446744073709551616 := ⟨_, rfl, by omega⟩
  have HM := Lib.hid (show SdM w (w.setCell ⟨r, 3, none⟩ (.int .u64 m)) fp r { s with lim := max s.lim n } from by
    rw [hm]
    exact sdm_of (s' := { s with lim := m }) h0 hfp ⟨fb, h0.buf, Went.refl _ _⟩ ((Upd.refl (fun j => j = r) w).setCell ⟨r, 3, none⟩ (.inl rfl) _) (set_at h0.blk 3 _) ⟨h0.ok.id, h0.ok.st, hm2, h0.ok.rs⟩)
  have HMM := Lib.hid hm
  generalize s.lim = lim at *
  clear h0 hfp hm
  go_enter Tryz.func29, Tryz.ntmps29
  go_wp2_with fail
  · obtain rfl : m = n := by have := HMM.out; omega
    refine bodyPost_end (results_none rfl _ _ _) rfl ?_
    exact ⟨rfl, HM.out⟩
  · obtain rfl : m = lim := by have := HMM.out; omega
    refine bodyPost_end (results_none rfl _ _ _) rfl ?_
    exact ⟨rfl, HM.out⟩
end Go.Proofs.YtnneoeimgbemfaaGreat

/- DERIVED. Walk of the set's Has. -/
namespace Go.Proofs.YtnneoeimgbemfaaGreat
open Go.RowKit

set_option maxHeartbeats 400000 in
theorem has_fn (n c : Nat) (r : Rg) (w : World) (hc : w.cell? ⟨c, 0, none⟩ = some (.int .u64 n)) :
    Calls Tryz.prog 84 #[.agg #[.int .u64 r.1, .int .u64 r.2], .pointer (some ⟨c, 0, none⟩)] w fun e w' => e = .returned (.bool (hasP n r)) ∧ Below w.heap.size w w' := by
  have ha := fun o => Lib.cell?_alloc_some o hc
  by_cases h1 : r.1 ≤ n
  all_goals by_cases h2 : n < r.2
  all_goals
    go_enter Tryz.func84, Tryz.ntmps84
    go_wp2
    go_ret
    exact ⟨fn_end (by simp [hasP, h1, h2]; try omega), (Below.refl _ _).alloc (Nat.le_refl _) _⟩

set_option maxRecDepth 100000 in
set_option maxHeartbeats 400000 in
theorem index_has (n c : Nat) (v : Value) (og : Option Nat) (xs : List Rg) (w : World) (hs : Sl w v og xs) (hc : w.cell? ⟨c, 0, none⟩ = some (.int .u64 n)) :
    Calls Tryz.prog 99 #[v, .func (.func 84) #[] #[.pointer (some ⟨c, 0, none⟩)]] w
      fun e w' => ∃ z : Int, e = .returned (.int .i64 z) ∧ decide (0 ≤ z) = xs.any (hasP n) ∧ Below w.heap.size w w' := by
  obtain ⟨oa, cap, rfl, hcap, hcap2⟩ := hs.shape
  have HS := Lib.hid hs
  have HC := Lib.hid hc
  clear hs hc
  generalize hn : xs.length = len at *
  have HN := Lib.hid hn
  clear hn
  go_enter Tryz.func99, Tryz.ntmps99
  go_wp2_with fail
  go_loopw [8] (fun i wr => ∃ k : Nat, i = .int .i64 k ∧ k ≤ len ∧ (xs.take k).any (hasP n) = false ∧ Below w.heap.size w wr) (fun i _ => len - (intOf i).toNat)
  case atStart => exact ⟨0, rfl, by omega, by simp, Below.refl _ _⟩
  case round =>
    obtain ⟨k, rfl, hk, hany, hb⟩ := hrel
    have HA := Lib.hid hany
    have HB := Lib.hid hb
    clear hany hb
    by_cases hlt : k < len
    · obtain ⟨r, hr⟩ : ∃ r, xs[k]? = some r := ⟨_, List.getElem?_eq_getElem (by rw [HN.out]; exact hlt)⟩
      obtain ⟨g, hog, rfl, hgl, c0, c1⟩ := HS.out.atS hr
      have HR := Lib.hid hr
      have d0 := (HB.out.cell (p := ⟨g, k * 2, none⟩) hgl).trans c0
      have d1 := (HB.out.cell (p := ⟨g, k * 2 + 1, none⟩) hgl).trans c1
      clear c0 c1 hog hr
      have hcl := cell_in HC.out
      have hfn := Lib.hid (has_fn n c r wr ((HB.out.cell (p := ⟨c, 0, none⟩) hcl).trans HC.out))
      cases hp : hasP n r
      all_goals go_wp2_with fail
      all_goals (refine hfn.out.mono ?_; rintro e w' ⟨rfl, hb'⟩)
      all_goals (have HB' := Lib.hid (below_call HB.out HB.out.size hb'))
      all_goals clear hb'
      · rw [hp]
        go_wp2
        go_roundw
        case rel => exact ⟨k + 1, by go_num, by omega, by rw [take_any HR.out, HA.out, hp]; rfl, HB'.out⟩
        case measure => simp [intOf]; omega
      · rw [hp]
        go_wp2
        go_ret
        refine ⟨k, rfl, ?_, HB'.out⟩
        have h1 : xs.any (hasP n) = true := List.any_eq_true.2 ⟨r, List.mem_of_getElem? HR.out, hp⟩
        rw [h1]
        simp
    · go_wp2
      go_ret
      refine ⟨-1, rfl, ?_, HB.out⟩
      have := HA.out
      rw [List.take_of_length_le (by rw [HN.out]; omega)] at this
      rw [this]
      rfl
set_option maxHeartbeats 400000 in
theorem contains_has (n c : Nat) (v : Value) (og : Option Nat) (xs : List Rg) (w : World) (hs : Sl w v og xs) (hc : w.cell? ⟨c, 0, none⟩ = some (.int .u64 n)) :
    Calls Tryz.prog 83 #[v, .func (.func 84) #[] #[.pointer (some ⟨c, 0, none⟩)]] w
      fun e w' => e = .returned (.bool (xs.any (hasP n))) ∧ Below w.heap.size w w' := by
  have HI := Lib.hid (index_has n c v og xs w hs hc)
  clear hs hc
  go_enter Tryz.func83, Tryz.ntmps83
  go_wp2_with fail
  refine HI.out.mono ?_
  rintro e w' ⟨z, rfl, hz, hb⟩
  have HZ := Lib.hid hz
  have HB := Lib.hid hb
  clear hz hb
  go_wp2
  go_ret
  exact ⟨fn_end HZ.out, HB.out⟩


set_option maxHeartbeats 400000 in
theorem shas_any (b : Nat) (most : Int) (og : Option Nat) (xs : List Rg) (n : Nat) (w : World) (h : SetAt w b most og xs) :
    Calls Tryz.prog 68 #[.pointer (some ⟨b, 0, none⟩), .int .u64 n] w fun e w' => e = .returned (.bool (xs.any (hasP n))) ∧ Below w.heap.size w w' := by
  obtain ⟨v, hb, hs, hne⟩ := h
  have c1 := cell_at hb 1
  simp at c1
  have ha := fun o => Lib.cell?_alloc_some o c1
  have HS := Lib.hid hs
  clear hb hs
  go_enter Tryz.func68, Tryz.ntmps68
  go_wp2_with fail
  refine (contains_has n w.heap.size v og xs _ (HS.out.below ((Below.refl _ _).alloc (Nat.le_refl _) _)) (by simp)).mono ?_
  rintro e w' ⟨rfl, hb⟩
  have HB := Lib.hid (below_call ((Below.refl w.heap.size w).alloc (Nat.le_refl _) _) (by simp) hb)
  clear hb ha c1
  go_wp2
  go_ret
  exact ⟨rfl, HB.out⟩

end Go.Proofs.YtnneoeimgbemfaaGreat

/- DERIVED. Plain laws: counting the numbers of a list of ranges; gaps. -/
namespace Go.Proofs.YtnneoeimgbemfaaGreat
open Go.RowKit

/-- How many numbers below n are such. -/
def cnt (p : Nat → Bool) : Nat → Nat
  | 0 => 0
  | n + 1 => cnt p n + if p n then 1 else 0
theorem cnt_or {p q : Nat → Bool} : ∀ n, (∀ k, k < n → p k = true → q k = false) → cnt (fun k => p k || q k) n = cnt p n + cnt q n
  | 0, _ => rfl
  | n + 1, h => by
    simp only [cnt]
    rw [cnt_or n (fun k hk => h k (by omega))]
    have h1 := h n (by omega)
    have key : ∀ a b : Bool, (a = true → b = false) → (if (a || b) = true then 1 else 0) = (if a = true then 1 else 0) + (if b = true then 1 else 0) := by decide
    rw [key _ _ h1]
    omega
theorem cnt_eq {p q : Nat → Bool} : ∀ n, (∀ k, k < n → p k = q k) → cnt p n = cnt q n
  | 0, _ => rfl
  | n + 1, h => by simp only [cnt]; rw [cnt_eq n (fun k hk => h k (by omega)), h n (by omega)]
theorem cnt_rg (r : Rg) (h : r.1 < r.2) : ∀ n, cnt (fun k => hasP k r) n = min n r.2 - min n r.1
  | 0 => by simp [cnt]
  | n + 1 => by
    simp only [cnt]
    rw [cnt_rg r h n]
    simp only [hasP, Bool.and_eq_true, decide_eq_true_eq]
    split <;> omega
def mem (xs : List Rg) (k : Nat) : Bool := xs.any (hasP k)
theorem mem_lo {xs : List Rg} (_hn : Norm xs) {a : Nat} (h : ∀ r ∈ xs, a < r.1) {k : Nat} (hk : k ≤ a) : mem xs k = false := by
  unfold mem
  rw [List.any_eq_false]
  intro r hr
  have := h r hr
  simp [hasP]
  omega
theorem cntL_cnt (a : Nat) : ∀ xs : List Rg, Norm xs → (∀ r ∈ xs, r.2 ≤ a) → cntL xs = cnt (mem xs) a
  | [], _, _ => by
    have : ∀ n, cnt (mem []) n = 0 := by
      intro n
      induction n with
      | zero => rfl
      | succ n ih => simp [cnt, ih, mem]
    rw [this]
    rfl
  | r :: xs, hn, ha => by
    obtain ⟨⟨h1, h2⟩, h3⟩ := hn.head
    have e : cnt (mem (r :: xs)) a = cnt (fun k => hasP k r || mem xs k) a := cnt_eq a (fun k _ => by simp [mem])
    rw [e, cnt_or a (fun k _ hk => by
      simp [hasP] at hk
      exact mem_lo hn.tail h3 (by omega)), ← cntL_cnt a xs hn.tail (fun x hx => ha x (List.mem_cons_of_mem _ hx)), cnt_rg r h1]
    have := ha r (List.mem_cons_self ..)
    have e2 : cntL (r :: xs) = r.2 - r.1 + cntL xs := by simp [cntL]
    rw [e2]
    omega
theorem cnt_all {p : Nat → Bool} {a : Nat} : ∀ d, (∀ k, a ≤ k → k < a + d → p k = true) → cnt p (a + d) = cnt p a + d
  | 0, _ => rfl
  | d + 1, h => by
    rw [← Nat.add_assoc, cnt, cnt_all d (fun k h1 h2 => h k h1 (by omega)), h (a + d) (by omega) (by omega)]
    simp
    omega
theorem cnt_none {p : Nat → Bool} {a : Nat} : ∀ d, (∀ k, a ≤ k → k < a + d → p k = false) → cnt p (a + d) = cnt p a
  | 0, _ => rfl
  | d + 1, h => by
    rw [← Nat.add_assoc, cnt, cnt_none d (fun k h1 h2 => h k h1 (by omega)), h (a + d) (by omega) (by omega)]
    simp

/-- What a gap is. -/
theorem gapF_facts (t : Nat) : ∀ (xs : List Rg) (f : Nat), Norm xs → f ≤ (gapF xs f t).1 ∧ (gapF xs f t).2 ≤ t ∧
    (∀ k, f ≤ k → k < (gapF xs f t).1 → mem xs k = true) ∧ (∀ k, (gapF xs f t).1 ≤ k → k < (gapF xs f t).2 → mem xs k = false)
  | [], f, _ => ⟨Nat.le_refl _, Nat.le_refl _, fun k h1 h2 => by simp [gapF] at h2; omega, fun k _ _ => rfl⟩
  | r :: xs, f, hn => by
    obtain ⟨⟨h1, h2⟩, h3⟩ := hn.head
    unfold gapF
    by_cases c1 : r.2 ≤ f
    · rw [if_pos c1]
      obtain ⟨i1, i2, i3, i4⟩ := gapF_facts t xs f hn.tail
      refine ⟨i1, i2, fun k a b => ?_, fun k a b => ?_⟩
      · have := i3 k a b
        simp [mem] at this ⊢
        exact .inr this
      · have := i4 k a b
        unfold mem at *
        rw [List.any_cons, this]
        simp [hasP]
        omega
    · rw [if_neg c1]
      by_cases c2 : f < r.1
      · rw [if_pos c2]
        refine ⟨Nat.le_refl _, Nat.min_le_left _ _, fun k a b => by simp only at b; omega, fun k a b => ?_⟩
        simp only at a b
        have := mem_lo hn.tail (a := r.2) h3 (k := k) (by omega)
        unfold mem at *
        rw [List.any_cons, this]
        simp [hasP]
        omega
      · rw [if_neg c2]
        obtain ⟨i1, i2, i3, i4⟩ := gapF_facts t xs r.2 hn.tail
        refine ⟨by omega, i2, fun k a b => ?_, fun k a b => ?_⟩
        · by_cases hk : k < r.2
          · simp [mem, hasP]
            left
            omega
          · have := i3 k (by omega) b
            simp [mem] at this ⊢
            exact .inr this
        · have := i4 k a b
          unfold mem at *
          rw [List.any_cons, this]
          simp [hasP]
          omega
theorem gap_step {xs : List Rg} {f t : Nat} {r : Rg} (hn : Norm xs) (h : gapL xs f t = (r, true)) :
    f ≤ r.1 ∧ r.1 < r.2 ∧ r.2 ≤ t ∧ (∀ k, r.1 ≤ k → k < r.2 → xs.any (hasP k) = false) ∧ cnt (mem xs) r.2 = cnt (mem xs) f + (r.1 - f) := by
  obtain ⟨i1, i2, i3, i4⟩ := gapF_facts t xs f hn
  unfold gapL at h
  split at h
  · simp at h
  · rename_i c
    have h' : gapF xs f t = r := congrArg Prod.fst h
    rw [h'] at i1 i2 i3 i4 c
    refine ⟨i1, by omega, i2, i4, ?_⟩
    have e1 : r.2 = r.1 + (r.2 - r.1) := by omega
    have e2 : r.1 = f + (r.1 - f) := by omega
    have e3 := cnt_none (p := mem xs) (a := r.1) (r.2 - r.1) (fun k a b => i4 k a (by omega))
    have e4 := cnt_all (p := mem xs) (a := f) (r.1 - f) (fun k a b => i3 k a (by omega))
    rw [← e1] at e3
    rw [← e2] at e4
    omega
theorem gap_end {xs : List Rg} {f t : Nat} {g : Rg} (hn : Norm xs) (hf : f ≤ t) (ht : ∀ r ∈ xs, r.2 ≤ t) (h : gapL xs f t = (g, false)) : cntL xs = cnt (mem xs) f + (t - f) := by
  obtain ⟨i1, i2, i3, i4⟩ := gapF_facts t xs f hn
  obtain ⟨_, _, j3⟩ := gapF_is t xs f hn
  unfold gapL at h
  split at h
  · rename_i c
    have hle := j3.1 c
    rw [cntL_cnt t xs hn ht, show t = f + (t - f) from by omega, cnt_all _ (fun k a b => i3 k a (by omega))]
    omega
  · simp at h
end Go.Proofs.YtnneoeimgbemfaaGreat

/- DERIVED. Plain: a buffer that puts bytes in order: what lies from the next byte on. -/
namespace Go.Proofs.YtnneoeimgbemfaaGreat

/-- What a place holds. -/
def gt (L : List (Option Nat)) (j : Nat) : Option Nat := (L[j]?).join
theorem gt_nil (j : Nat) : gt [] j = none := by simp [gt]
theorem gt_ge {L : List (Option Nat)} {j : Nat} (h : L.length ≤ j) : gt L j = none := by
  unfold gt
  rw [List.getElem?_eq_none h]
  rfl
def ext (L : List (Option Nat)) (k : Nat) : List (Option Nat) := L ++ List.replicate (k + 1 - L.length) none
theorem ext_len (L : List (Option Nat)) (k : Nat) : (ext L k).length = max L.length (k + 1) := by
  simp [ext]
  omega
theorem gt_ext (L : List (Option Nat)) (k j : Nat) : gt (ext L k) j = gt L j := by
  unfold gt ext
  rw [List.getElem?_append]
  split
  · rfl
  · rename_i h
    rw [List.getElem?_eq_none (l := L) (by omega), List.getElem?_replicate]
    split <;> rfl
/-- One byte comes: the first one stands. -/
def put1 (L : List (Option Nat)) (k v : Nat) : List (Option Nat) := if (gt L k).isSome then ext L k else (ext L k).set k (some v)
theorem put1_len (L : List (Option Nat)) (k v : Nat) : (put1 L k v).length = max L.length (k + 1) := by
  unfold put1
  split <;> simp [ext_len]
theorem gt_put1 (L : List (Option Nat)) (k v j : Nat) : gt (put1 L k v) j = if j = k then (if (gt L k).isSome then gt L k else some v) else gt L j := by
  unfold put1
  by_cases h : (gt L k).isSome
  · rw [if_pos h, if_pos h, gt_ext]
    split
    · rename_i e; rw [e]
    · rfl
  · rw [if_neg h, if_neg h]
    by_cases e : j = k
    · subst e
      rw [if_pos rfl]
      unfold gt
      rw [List.getElem?_set_self (by rw [ext_len]; omega)]
      rfl
    · rw [if_neg e, ← gt_ext L k j]
      unfold gt
      rw [List.getElem?_set_ne (fun h => e h.symm)]
/-- One byte at an offset. -/
def putAt (rd : Nat) (s : List (Option Nat) × Nat) (v : Nat) : List (Option Nat) × Nat := (if s.2 < rd then s.1 else put1 s.1 (s.2 - rd) v, s.2 + 1)
def putN (rd off : Nat) (L : List (Option Nat)) (d : List Nat) : List (Option Nat) := (d.foldl (putAt rd) (L, off)).1
theorem putN_at (rd off : Nat) (L : List (Option Nat)) (d : List Nat) : d.foldl (putAt rd) (L, off) = (putN rd off L d, off + d.length) := by
  unfold putN
  have : ∀ (d : List Nat) (s : List (Option Nat) × Nat), (d.foldl (putAt rd) s).2 = s.2 + d.length := by
    intro d
    induction d with
    | nil => intro s; rfl
    | cons v d ih => intro s; simp only [List.foldl_cons, ih]; simp [putAt]; omega
  rw [← this d (L, off)]
theorem putN_snoc (rd off : Nat) (L : List (Option Nat)) (d : List Nat) (v : Nat) : putN rd off L (d ++ [v]) = if off + d.length < rd then putN rd off L d else put1 (putN rd off L d) (off + d.length - rd) v := by
  have h := putN_at rd off L d
  unfold putN at *
  rw [List.foldl_append]
  simp only [List.foldl_cons, List.foldl_nil]
  rw [h]
  rfl
theorem putN_nil (rd off : Nat) (L : List (Option Nat)) : putN rd off L [] = L := rfl
theorem snoc_ind {p : List Nat → Prop} (h0 : p []) (h1 : ∀ l a, p l → p (l ++ [a])) : ∀ l, p l := by
  intro l
  have : ∀ m : List Nat, p m.reverse := by
    intro m
    induction m with
    | nil => simpa using h0
    | cons a m ih => simpa using h1 _ a ih
  have := this l.reverse
  simpa using this
/-- What lies there behind it. -/
theorem gt_putN (rd off : Nat) (L : List (Option Nat)) : ∀ (d : List Nat) (j : Nat),
    gt (putN rd off L d) j = if (gt L j).isSome then gt L j else if off ≤ rd + j then d[rd + j - off]? else none := by
  apply snoc_ind
  · intro j
    rw [putN_nil]
    by_cases h : (gt L j).isSome
    · rw [if_pos h]
    · rw [if_neg h]
      simp at h
      rw [h]
      split <;> simp
  · intro d v ih j
    rw [putN_snoc]
    by_cases h1 : off + d.length < rd
    · rw [if_pos h1, ih j]
      split
      · rfl
      · split
        · rw [List.getElem?_eq_none (by omega), List.getElem?_eq_none (by simp; omega)]
        · rfl
    · rw [if_neg h1, gt_put1, ih j, ih (off + d.length - rd)]
      by_cases e : j = off + d.length - rd
      · subst e
        rw [if_pos rfl]
        have e2 : rd + (off + d.length - rd) - off = d.length := by omega
        have e3 : off ≤ rd + (off + d.length - rd) := by omega
        by_cases h : (gt L (off + d.length - rd)).isSome
        · simp [h]
        · rw [if_neg h, if_neg h, if_pos e3, if_pos e3, e2]
          simp
      · rw [if_neg e]
        split
        · rfl
        · split
          · rw [List.getElem?_append]
            split
            · rfl
            · rw [List.getElem?_eq_none (by omega), List.getElem?_eq_none (by simp; omega)]
          · rfl
theorem putN_len (rd off : Nat) (L : List (Option Nat)) : ∀ d : List Nat, (putN rd off L d).length = max L.length (if d = [] then 0 else off + d.length - rd) := by
  apply snoc_ind
  · simp [putN_nil]
  · intro d v ih
    rw [putN_snoc]
    by_cases h1 : off + d.length < rd
    · rw [if_pos h1, ih]
      by_cases hd : d = []
      · subst hd
        simp at h1 ⊢
        omega
      · simp [hd]
        omega
    · rw [if_neg h1, put1_len, ih]
      by_cases hd : d = []
      · subst hd
        simp at h1 ⊢
        omega
      · simp [hd]
        omega

/-- How many bytes could be read. -/
def rdy (L : List (Option Nat)) : Nat := (L.takeWhile Option.isSome).length
theorem rdy_le (L : List (Option Nat)) : rdy L ≤ L.length := by
  unfold rdy
  exact (List.takeWhile_sublist _).length_le
theorem rdy_lt : ∀ {L : List (Option Nat)} {j : Nat}, j < rdy L → ∃ v, gt L j = some v
  | [], j, h => by simp [rdy] at h
  | none :: L, j, h => by simp [rdy] at h
  | some v :: L, j, h => by
    cases j with
    | zero => exact ⟨v, rfl⟩
    | succ j =>
      have : j < rdy L := by simp [rdy] at h ⊢; omega
      obtain ⟨u, hu⟩ := rdy_lt this
      exact ⟨u, by simpa [gt] using hu⟩
theorem rdy_end : ∀ (L : List (Option Nat)), gt L (rdy L) = none
  | [] => rfl
  | none :: L => by simp [rdy, gt]
  | some v :: L => by
    have := rdy_end L
    simpa [rdy, gt] using this
theorem rdy_is {L : List (Option Nat)} {n : Nat} (h1 : ∀ j, j < n → (gt L j).isSome = true) (h2 : gt L n = none) : rdy L = n := by
  rcases Nat.lt_trichotomy (rdy L) n with h | h | h
  · have := h1 _ h
    rw [rdy_end] at this
    simp at this
  · exact h
  · obtain ⟨v, hv⟩ := rdy_lt h
    rw [h2] at hv
    cases hv
theorem gt_drop (L : List (Option Nat)) (n j : Nat) : gt (L.drop n) j = gt L (n + j) := by
  unfold gt
  rw [List.getElem?_drop]
def bytesOf (L : List (Option Nat)) : List Nat := L.map (fun o => o.getD 0)
theorem bytesOf_get {L : List (Option Nat)} {j v : Nat} (h : gt L j = some v) : (bytesOf L)[j]? = some v := by
  unfold gt at h
  unfold bytesOf
  rw [List.getElem?_map]
  cases hx : L[j]? with
  | none => rw [hx] at h; cases h
  | some o =>
    rw [hx] at h
    simp at h
    subst h
    rfl

structure IB where
  rd : Nat
  hi : Nat
  fin : Nat
  kn : Bool
  L : List (Option Nat)
def IB.zero : IB := ⟨0, 0, 0, false, []⟩
def IB.came (s : IB) (k : Nat) : Bool := decide (k < s.rd) || (gt s.L (k - s.rd)).isSome
def IB.finErr (s : IB) (e : Nat) (f : Bool) : Bool := (s.kn && (decide (s.fin < e) || (f && decide (e ≠ s.fin)))) || (f && decide (e < s.hi))
def IB.err (s : IB) (off n : Nat) (f : Bool) : Nat :=
  if 1099511627776 < off ∨ 512 < n then 1 else if s.finErr (off + n) f then 30 else if s.rd + 2048 < off + n then 23 else 0
def IB.put (s : IB) (off : Nat) (d : List Nat) (f : Bool) : IB :=
  ⟨s.rd, max s.hi (off + d.length), if f then off + d.length else s.fin, if f then true else s.kn, putN s.rd off s.L d⟩
def IB.add (s : IB) (off : Nat) (d : List Nat) (f : Bool) : IB := if s.err off d.length f = 0 then s.put off d f else s
def IB.num (s : IB) (most : Int) : Nat := min most.toNat (rdy s.L)
def IB.take (s : IB) (n : Nat) : IB := ⟨s.rd + n, s.hi, s.fin, s.kn, s.L.drop n⟩
def IB.out (s : IB) (n : Nat) : List Nat := (bytesOf s.L).take n
def IB.last (s : IB) : Bool := s.kn && decide (s.rd = s.fin)
def IB.whole (s : IB) : Bool := s.kn && decide (s.rd + rdy s.L = s.fin)
/-- What holds of each buffer. -/
structure IB.Ok (s : IB) : Prop where
  hi : s.hi ≤ 1099511628288
  fin : s.fin ≤ 1099511628288
  len : s.L.length ≤ 2048
  top : s.rd + s.L.length ≤ s.hi
  bys : ∀ j v, gt s.L j = some v → v < 256
theorem IB.zero_ok : IB.zero.Ok := ⟨by decide, by decide, by decide, by decide, by intro j v h; simp [IB.zero, gt] at h⟩
theorem IB.err_zero {s : IB} {off n : Nat} {f : Bool} (h : s.err off n f = 0) : (off ≤ 1099511627776 ∧ n ≤ 512) ∧ s.finErr (off + n) f = false ∧ off + n ≤ s.rd + 2048 := by
  unfold IB.err at h
  by_cases h1 : 1099511627776 < off ∨ 512 < n
  · rw [if_pos h1] at h; cases h
  · rw [if_neg h1] at h
    by_cases h2 : s.finErr (off + n) f = true
    · rw [if_pos h2] at h; cases h
    · rw [if_neg h2] at h
      by_cases h3 : s.rd + 2048 < off + n
      · rw [if_pos h3] at h; cases h
      · exact ⟨by omega, by simpa using h2, by omega⟩
theorem IB.put_ok {s : IB} (h : s.Ok) {off : Nat} {d : List Nat} {f : Bool} (he : s.err off d.length f = 0) (hd : ∀ n ∈ d, n < 256) : (s.put off d f).Ok := by
  obtain ⟨⟨h1, h2⟩, h3, h4⟩ := IB.err_zero he
  have hh := h.hi
  have hf := h.fin
  have ht := h.top
  have hl := h.len
  have e := putN_len s.rd off s.L d
  refine ⟨?_, ?_, ?_, ?_, ?_⟩
  · simp only [IB.put]; omega
  · simp only [IB.put]; split <;> omega
  · simp only [IB.put]
    rw [e]
    split <;> omega
  · simp only [IB.put]
    rw [e]
    split <;> omega
  · intro j v hv
    simp only [IB.put] at hv
    rw [gt_putN] at hv
    split at hv
    · exact h.bys j v hv
    · split at hv
      · exact hd v (List.mem_of_getElem? hv)
      · cases hv
theorem IB.add_ok {s : IB} (h : s.Ok) (off : Nat) {d : List Nat} (f : Bool) (hd : ∀ n ∈ d, n < 256) : (s.add off d f).Ok := by
  unfold IB.add
  split
  · rename_i he
    exact IB.put_ok h he hd
  · exact h
theorem IB.take_ok {s : IB} (h : s.Ok) {n : Nat} (hn : n ≤ rdy s.L) : (s.take n).Ok := by
  have := rdy_le s.L
  have ht := h.top
  have hl := h.len
  refine ⟨h.hi, h.fin, ?_, ?_, ?_⟩
  · simp only [IB.take, List.length_drop]; omega
  · simp only [IB.take, List.length_drop]; omega
  · intro j v hv
    simp only [IB.take] at hv
    rw [gt_drop] at hv
    exact h.bys _ v hv
theorem IB.num_le (s : IB) (most : Int) : s.num most ≤ rdy s.L := Nat.min_le_right _ _
end Go.Proofs.YtnneoeimgbemfaaGreat
