/- DERIVED. Walk of outbuf's Next, where a piece goes. -/
import Derived.Test.YtncfbaabhceeoaaQK7
import Derived.Test.YtncfbaabhceeoaaQK9
set_option linter.all false
namespace Go.Proofs.Ytncfbaabhceeoaa
open Go.RowKit

/-- A piece goes. -/
def OS.went (s : OS) (f t : Nat) : OS := { s with sent := max s.sent t, ys := cutRaw f t s.ys, es := s.es || (decide (t = s.B.length) && s.ende), el := s.el && !(decide (t = s.B.length) && s.ende) }
theorem went_no (s : OS) (f t z : Nat) (hz : max s.sent t = z) (h : (decide (t = s.B.length) && s.ende) = false) : { s with ys := cutRaw f t s.ys, sent := z } = s.went f t := by
  unfold OS.went
  rw [h, hz]
  simp
theorem went_yes (s : OS) (f t z : Nat) (hz : max s.sent t = z) (h : (decide (t = s.B.length) && s.ende) = true) : { s with ys := cutRaw f t s.ys, sent := z, es := true, el := false } = s.went f t := by
  unfold OS.went
  rw [h, hz]
  simp
theorem ons_mk (w : World) (fp : Nat → Prop) (b : Nat) (s : OS) (sent t : Nat) (v : Value) (og : Option Nat) (en X : Bool) (w5 : World) (he : X = en) (hm : OM w w5 fp b (s.went sent t)) (hv : SlG encB 5 w5 v og ((s.B.drop sent).take (t - sent))) (hg : ∀ g, og = some g → w.heap.size ≤ g) :
    ∃ v' og', (Ending.returned (.tuple #[.int .u64 sent, v, .bool en, .bool true])) = .returned (.tuple #[.int .u64 sent, v', .bool X, .bool true]) ∧ OM w w5 fp b (s.went sent t) ∧ SlG encB 5 w5 v' og' ((s.B.drop sent).take (t - sent)) ∧ (∀ g, og' = some g → w.heap.size ≤ g) :=
  ⟨v, og, by rw [he], hm, hv, hg⟩
set_option maxRecDepth 100000 in
set_option maxHeartbeats 2000000 in
theorem onext_go (b : Nat) (s : OS) (fp : Nat → Prop) (most : Int) (limit sent t0 t : Nat) (w : World) (h : OAt w b s fp) (hlim : limit < 18446744073709551616) (hpt : s.part limit = (sent, t0)) (hbs : s.base ≤ sent) (hlt : sent < t) (ht : min t0 (sent + most.toNat) = t) (htl : t ≤ s.B.length) (hB : s.B.length ≤ 1000000000) (ht0 : t0 ≤ 1099511627776) (hcl : (cutRaw sent t s.ys).length ≤ 100000) (hm1 : -9223372036854775808 ≤ most) (hm : most ≤ 9223372036854775807) :
    Calls Try.prog 39 #[.pointer (some ⟨b, 0, none⟩), .int .i64 most, .int .u64 limit] w
      fun e w' => ∃ v og, e = .returned (.tuple #[.int .u64 sent, v, .bool (decide (t = s.B.length) && s.ende), .bool true]) ∧ OM w w' fp b (s.went sent t) ∧ SlG encB 5 w' v og ((s.B.drop sent).take (t - sent)) ∧ (∀ g, og = some g → w.heap.size ≤ g) := by
  obtain ⟨i0, hi0, hz0, hz1, hz2'⟩ := info_parts infoB
  have hlen := h.ok.len
  have hbl := h.ok.base
  have H := Lib.hid h
  have HPT := Lib.hid hpt
  obtain ⟨len, hln⟩ : ∃ len, s.B.length = len := ⟨_, rfl⟩
  obtain ⟨base, hbase⟩ : ∃ base, s.base = base := ⟨_, rfl⟩
  obtain ⟨en, hen⟩ : ∃ en, s.ende = en := ⟨_, rfl⟩
  obtain ⟨mo, hmo⟩ : ∃ mo, most.toNat = mo := ⟨_, rfl⟩
  have HLE := Lib.hid hln
  have HBA := Lib.hid hbase
  have HE := Lib.hid hen
  have HCL := Lib.hid hcl
  rw [hln] at hB
  rw [hln] at hlen hbl htl ⊢
  rw [hbase] at hbs hbl
  rw [hen]
  rw [hmo] at ht
  have hmos : (most : Int) = (mo : Int) ∧ 0 < most := by omega
  obtain ⟨hmo1, hmp⟩ := hmos
  subst hmo1
  have hmb : mo ≤ 9223372036854775807 := by omega
  clear h hpt hln hbase hen hcl hmo hm hm1
  have HTL := Lib.hid htl
  go_enter Try.func39, Try.ntmps39
  go_wp2_with fail
  refine (opart_any b s fp limit _ (by exact H.out) hlim HPT.out).mono ?_
  rintro e w1 ⟨rfl, hb⟩
  have HB := Lib.hid hb
  clear hb
  go_upto_region 2 with fail
  go_cut [11] (fun v wx => v = .int .u64 t ∧ wx = w1)
  case first =>
    have q2 : (0 : Int) < (mo : Int) := by omega
    have hwm : IntKind.u64.wrap (mo : Int) = mo := IntWalk.u64_in _ (by omega)
    obtain ⟨z, hz, hzt⟩ : ∃ z : Nat, (sent : Int) + (mo : Int) = (z : Int) ∧ sent + mo = z := ⟨sent + mo, by omega, rfl⟩
    have hzb : (z : Int) < 18446744073709551616 := by omega
    have hwz : IntKind.u64.wrap (z : Int) = z := IntWalk.u64_in _ (by omega)
    rw [hzt] at ht
    rcases (by omega : (z < t0 ∧ t = z) ∨ (t0 < z ∧ t = t0) ∨ (t0 = z ∧ t = t0)) with ⟨q1, q3⟩ | ⟨q1, q3⟩ | ⟨q1, q3⟩
    · subst q3
      clear ht hzt
      go_wp2_with fail
      go_meet
      case rel => exact ⟨rfl, rfl⟩
    · subst q3
      clear ht hzt
      go_wp2_with fail
      go_meet
      case rel => exact ⟨rfl, rfl⟩
    · subst q3
      subst q1
      clear ht hzt
      go_wp2_with fail
      go_meet
      case rel => exact ⟨rfl, rfl⟩
  case rest =>
    obtain ⟨rfl, rfl⟩ := hcut
    generalize wc = w1 at *
    have H1 := Lib.hid (H.out.below HB.out)
    obtain ⟨vb, ob, c, oc, d, od, hO, hfp⟩ := H1.out
    obtain ⟨oB, cB, e0, hcB, hcB2⟩ := hO.row.shape
    rw [List.length_drop, HLE.out, HBA.out] at e0 hcB
    obtain ⟨n0, hn0⟩ : ∃ n0, len - base = n0 := ⟨_, rfl⟩
    rw [hn0] at e0 hcB
    subst e0
    have HO := Lib.hid hO
    have HFP := Lib.hid hfp
    have hrv := (hO.row.vw encB_len).below (Below.refl _ _).drew
    obtain ⟨l, hl, hl2⟩ : ∃ l : Nat, (sent : Int) - (base : Int) = (l : Int) ∧ sent - base = l := ⟨sent - base, by omega, rfl⟩
    obtain ⟨hh, hhh, hhh2⟩ : ∃ hh : Nat, (t : Int) - (base : Int) = (hh : Int) ∧ t - base = hh := ⟨t - base, by omega, rfl⟩
    have hlh : l ≤ hh := by omega
    have hhc : hh ≤ cB := by omega
    have hlb : (l : Int) ≤ 1099511627776 := by omega
    have hsb : sent ≤ 1099511627776 := by omega
    have hsti : (sent : Int) < (t : Int) := by omega
    have htb : t ≤ 1099511627776 := by omega
    have hhb : (hh : Int) ≤ 1099511627776 := by omega
    have hwl : IntKind.u64.wrap (l : Int) = l := IntWalk.u64_in _ (by omega)
    have hwh : IntKind.u64.wrap (hh : Int) = hh := IntWalk.u64_in _ (by omega)
    have HP0 := hrv.mid encB_len hlh (show hh ≤ n0 by omega)
    have hpc : ((s.B.drop s.base).drop l).take (hh - l) = (s.B.drop sent).take (t - sent) := by
      rw [List.drop_drop, HBA.out, show base + l = sent by omega, show hh - l = t - sent by omega]
    rw [hpc] at HP0
    have HP := Lib.hid HP0
    have HPL := Lib.hid (show ((s.B.drop sent).take (t - sent)).length ≤ 1000000000 by rw [List.length_take]; omega)
    have hst : ¬ sent = t := by omega
    have HSof := Lib.hid (show ∀ W, Below w1.drew.heap.size w1.drew W → W.cell? ⟨b, 0, none⟩ = some (.slice oB n0 cB) ∧ W.cell? ⟨b, 1, none⟩ = some (.int .u64 base) from fun W h => by
      have hk := below_keeps h (show w1.drew.heap[b]? = _ from HO.out.blk) (heap_lt HO.out.blk)
      refine ⟨(cell_at hk 0).trans rfl, ?_⟩
      rw [cell_at hk, ← HBA.out]
      rfl)
    clear hO hfp hrv HP0 hpc hl2 hhh2 hn0 ht htl hlt
    go_upto_region 8 with fail
    go_cut [12] (fun v wx => ∃ og, Below w1.drew.heap.size w1.drew wx ∧ SlG encB 5 wx v og ((s.B.drop sent).take (t - sent)) ∧ ∀ g, og = some g → w1.drew.heap.size ≤ g)
    case first =>
      go_wp2_with fail
      have hb : Below w1.drew.heap.size w1.drew w1.drew := Below.refl _ _
      refine wp_region_till (S := fun w' => w'.cell? ⟨b, 0, none⟩ = some (.slice oB n0 cB) ∧ w'.cell? ⟨b, 1, none⟩ = some (.int .u64 base)) [] (by kernel_rfl) (by exact HSof.out _ hb) (fun hHeld => ?_)
      refine wpTill_take0 (i := 0) (oi := ⟨some 62, _, _, _, _, _⟩) (v := ?_) rfl (by kernel_rfl) (fun _ _ _ h => h) (Or.inl ⟨by rfl, ?_⟩) (fun _ => hHeld) ?_
      rotate_left
      · intro w hSw
        (try dsimp only at hSw)
        go_simp
        try with_reducible rfl
      try simp only [Act.put, List.setIfInBounds_toArray, List.set_cons_zero, List.set_cons_succ]
      refine wpTill_take0 (i := 1) (oi := ⟨some 63, _, _, _, _, _⟩) (v := ?_) rfl (by kernel_rfl) (fun _ _ _ h => h) (Or.inl ⟨by rfl, ?_⟩) (fun _ => hHeld) ?_
      rotate_left
      · intro w hSw
        (try dsimp only at hSw)
        go_simp
        try with_reducible rfl
      try simp only [Act.put, List.setIfInBounds_toArray, List.set_cons_zero, List.set_cons_succ]
      refine wpTill_take0 (i := 2) (oi := ⟨some 64, _, _, _, _, _⟩) (v := ?_) rfl (by kernel_rfl) (fun _ _ _ h => h) (Or.inl ⟨by rfl, ?_⟩) (fun _ => hHeld) ?_
      rotate_left
      · intro w hSw
        (try dsimp only at hSw)
        go_simp
        try with_reducible rfl
      try simp only [Act.put, List.setIfInBounds_toArray, List.set_cons_zero, List.set_cons_succ]
      refine wpTill_take (i := 3) (oi := ⟨some 65, _, _, _, _, _⟩) (v := ?_) rfl (by kernel_rfl) (fun _ _ _ h => h) (Or.inl ⟨by rfl, ?_⟩) (by exact hHeld) ?_
      rotate_left
      · intro w hSw
        (try dsimp only at hSw)
        go_simp
        try with_reducible rfl
      try simp only [Act.put, List.setIfInBounds_toArray, List.set_cons_zero, List.set_cons_succ]
      refine wpTill_take0 (i := 4) (oi := ⟨some 66, _, _, _, _, _⟩) (v := ?_) rfl (by kernel_rfl) (fun _ _ _ h => h) (Or.inl ⟨by rfl, ?_⟩) (fun _ => hHeld) ?_
      rotate_left
      · intro w hSw
        (try dsimp only at hSw)
        go_simp
        try with_reducible rfl
      try simp only [Act.put, List.setIfInBounds_toArray, List.set_cons_zero, List.set_cons_succ]
      refine wpTill_take0 (i := 5) (oi := ⟨some 67, _, _, _, _, _⟩) (v := ?_) rfl (by kernel_rfl) (fun _ _ _ h => h) (Or.inl ⟨by rfl, ?_⟩) (fun _ => hHeld) ?_
      rotate_left
      · intro w hSw
        (try dsimp only at hSw)
        go_simp
        try with_reducible rfl
      try simp only [Act.put, List.setIfInBounds_toArray, List.set_cons_zero, List.set_cons_succ]
      refine wpTill_take0 (i := 6) (oi := ⟨some 68, _, _, _, _, _⟩) (v := ?_) rfl (by kernel_rfl) (fun _ _ _ h => h) (Or.inl ⟨by rfl, ?_⟩) (fun _ => hHeld) ?_
      rotate_left
      · intro w hSw
        (try dsimp only at hSw)
        go_simp
        try with_reducible rfl
      try simp only [Act.put, List.setIfInBounds_toArray, List.set_cons_zero, List.set_cons_succ]
      refine wpTill_take0 (i := 7) (oi := ⟨some 69, _, _, _, _, _⟩) (v := ?_) rfl (by kernel_rfl) (fun _ _ _ h => h) (Or.inl ⟨by rfl, ?_⟩) (fun _ => hHeld) ?_
      rotate_left
      · intro w hSw
        (try dsimp only at hSw)
        go_simp
        try with_reducible rfl
      try simp only [Act.put, List.setIfInBounds_toArray, List.set_cons_zero, List.set_cons_succ]
      refine wpTill_take (i := 8) (oi := ⟨some 70, _, _, _, _, _⟩) (v := ?_) rfl (by kernel_rfl) (fun _ _ _ h => h) (Or.inl ⟨by rfl, ?_⟩) (by exact hHeld) ?_
      rotate_left
      · intro w hSw
        (try dsimp only at hSw)
        go_simp
        try with_reducible rfl
      try simp only [Act.put, List.setIfInBounds_toArray, List.set_cons_zero, List.set_cons_succ]
      refine wpTill_take0 (i := 9) (oi := ⟨some 71, _, _, _, _, _⟩) (v := ?_) rfl (by kernel_rfl) (fun _ _ _ h => h) (Or.inl ⟨by rfl, ?_⟩) (fun _ => hHeld) ?_
      rotate_left
      · intro w hSw
        (try dsimp only at hSw)
        go_simp
        try with_reducible rfl
      try simp only [Act.put, List.setIfInBounds_toArray, List.set_cons_zero, List.set_cons_succ]
      refine wpTill_take0 (i := 10) (oi := ⟨some 72, _, _, _, _, _⟩) (v := ?_) rfl (by kernel_rfl) (fun _ _ _ h => h) (Or.inl ⟨by rfl, ?_⟩) (fun _ => hHeld) ?_
      rotate_left
      · intro w hSw
        (try dsimp only at hSw)
        go_simp
        try with_reducible rfl
      try simp only [Act.put, List.setIfInBounds_toArray, List.set_cons_zero, List.set_cons_succ]
      refine wpTill_take0 (i := 11) (oi := ⟨some 73, _, _, _, _, _⟩) (v := ?_) rfl (by kernel_rfl) (fun _ _ _ h => h) (Or.inl ⟨by rfl, ?_⟩) (fun _ => hHeld) ?_
      rotate_left
      · intro w hSw
        (try dsimp only at hSw)
        go_simp
        try with_reducible rfl
      try simp only [Act.put, List.setIfInBounds_toArray, List.set_cons_zero, List.set_cons_succ]
      refine wpTill_take0 (i := 12) (oi := ⟨some 74, _, _, _, _, _⟩) (v := ?_) rfl (by kernel_rfl) (fun _ _ _ h => h) (Or.inl ⟨by rfl, ?_⟩) (fun _ => hHeld) ?_
      rotate_left
      · intro w hSw
        (try dsimp only at hSw)
        go_simp
        try with_reducible rfl
      try simp only [Act.put, List.setIfInBounds_toArray, List.set_cons_zero, List.set_cons_succ]
      refine wpTill_take0 (i := 13) (oi := ⟨some 75, _, _, _, _, _⟩) (v := ?_) rfl (by kernel_rfl) (fun _ _ _ h => h) (Or.inl ⟨by rfl, ?_⟩) (fun _ => hHeld) ?_
      rotate_left
      · intro w hSw
        (try dsimp only at hSw)
        go_simp
        try with_reducible rfl
      try simp only [Act.put, List.setIfInBounds_toArray, List.set_cons_zero, List.set_cons_succ]
      refine wpTill_take (i := 14) (oi := ⟨some 76, _, _, _, _, _⟩) (v := ?_) rfl (by kernel_rfl) (fun _ _ _ h => h) (Or.inl ⟨by rfl, ?_⟩) (by exact hHeld) ?_
      rotate_left
      · intro w hSw
        (try dsimp only at hSw)
        go_simp
        try with_reducible rfl
      try simp only [Act.put, List.setIfInBounds_toArray, List.set_cons_zero, List.set_cons_succ]
      refine wpTill_take0 (i := 15) (oi := ⟨some 77, _, _, _, _, _⟩) (v := ?_) rfl (by kernel_rfl) (fun _ _ _ h => h) (Or.inl ⟨by rfl, ?_⟩) (fun _ => hHeld) ?_
      rotate_left
      · intro w hSw
        (try dsimp only at hSw)
        go_simp
        try with_reducible rfl
      try simp only [Act.put, List.setIfInBounds_toArray, List.set_cons_zero, List.set_cons_succ]
      refine wpTill_take0 (i := 16) (oi := ⟨some 78, _, _, _, _, _⟩) (v := partV oB 1 cB l hh) rfl (by kernel_rfl) (fun _ _ _ h => h) (Or.inl ⟨by rfl, ?_⟩) (fun _ => hHeld) ?_
      · intro w hSw
        refine Eq.trans (exec_part Try.underlying36 hi0 rfl rfl rfl rfl hlh hhc) ?_
        rw [hz1]
      try simp only [Act.put, List.setIfInBounds_toArray, List.set_cons_zero, List.set_cons_succ]
      refine wpTill_ready (rs := [17]) (by kernel_rfl) (by simp) ?_
      refine AllTill.cons (o := ⟨some 79, _, _, _, _, _⟩) rfl (fun K hK => ?_) AllTill.nil
      go_simp
      go_at_call 60
      refine (cloneB_any _ _ _ (by exact HP.out.below hb) (by exact hb.size) HPL.out).mono ?_
      rintro e W17 ⟨v12, og12, rfl, hs12, hg12, hx12⟩
      have hb := below_call hb hb.size hx12
      go_wp2_with fail
      refine hK.out _ _ (by exact HSof.out _ hb) (fun hHeld => ?_)
      clear hK K
      try simp only [Act.put, List.setIfInBounds_toArray, List.set_cons_zero, List.set_cons_succ]
      refine wpTill_ready (rs := [18]) (by kernel_rfl) (by simp) ?_
      refine AllTill.cons (o := ⟨some 12, _, _, _, _, _⟩) rfl (fun K hK => ?_) AllTill.nil
      go_simp
      refine hK.out _ _ (by exact HSof.out _ hb) (fun hHeld => ?_)
      clear hK K
      try simp only [Act.put, List.setIfInBounds_toArray, List.set_cons_zero, List.set_cons_succ]
      refine wpTill_done (by kernel_rfl) ?_ _
      go_wp2_with fail
      go_meet
      case rel => exact ⟨og12, hb, hs12, og_le hg12 (Nat.le_refl _)⟩
    case rest =>
      obtain ⟨og, hb2, hsv, hgv⟩ := hcut
      have HSV := Lib.hid hsv
      have HGV := Lib.hid (og_le hgv HB.out.size)
      have HB2 := Lib.hid (show Below w1.heap.size w1 wc from below_call (Below.refl _ _).drew (Nat.le_refl _) hb2)
      generalize wc = w2 at *
      have HO2 := Lib.hid (HO.out.below HB2.out)
      have HW2 := Lib.hid (show Went fp (OFp b c d ob oc od) w w2 from by
        rw [← HFP.out]
        exact (Went.first HB.out (Went.refl fp w1)).later HB2.out)
      have HGV2 := Lib.hid (show ∀ g, og = some g → w1.heap.size ≤ g from hgv)
      have HOL := Lib.hid HO.out.lt
      have c5 : w2.cell? ⟨b, 5, none⟩ = some (.pointer (some ⟨d, 0, none⟩)) := (cell_at HO2.out.blk 5).trans rfl
      clear hb2 hsv hgv HO HB2 HSof HP hl hhh
      go_wp2_with fail
      refine (cut_any d many od s.ys sent t _ (by exact HO2.out.sy) (by decide) (by decide) (by omega) (by omega) HO2.out.ok.ny (by have := HO2.out.ok.ly; omega)).mono ?_
      rintro e w3 ⟨rfl, ht3⟩
      have hu3 : Upd (OFp b c d ob oc od) w2 w3 := by
        obtain ⟨_, _, _, hu⟩ := ht3
        exact hu.mono (fun j _ q => by
          rcases q with rfl | q
          · exact .inr (.inr (.inl rfl))
          · exact .inr (.inr (.inr (.inr (.inr q)))))
      have HSV3 := Lib.hid (HSV.out.keeps hu3 (fun g hg q => by have := HGV2.out g hg; have := HOL.out g q; omega))
      rw [trim_all (by have := HCL.out; unfold many; omega)] at ht3
      have hm3 := om_turnD HO2.out HW2.out ht3 (cut_norm _ _ _ HO2.out.ok.ny) HCL.out
      obtain ⟨fp3, hoa3, hw3⟩ := hm3
      obtain ⟨vb3, ob3, c3', oc3, d3, od3, hO3, hfp3⟩ := hoa3
      rw [hfp3] at hw3
      have e2 : w3.cell? ⟨b, 2, none⟩ = some (.int .u64 len) := by rw [cell_at hO3.blk, ← HLE.out]; rfl
      obtain ⟨se, hse⟩ : ∃ se, s.sent = se := ⟨_, rfl⟩
      have hses : se ≤ 1099511627776 := by have h1 : s.sent ≤ s.B.length := hO3.ok.sent; have := HLE.out; omega
      have e3 : w3.cell? ⟨b, 3, none⟩ = some (.int .u64 se) := by rw [cell_at hO3.blk, ← hse]; rfl
      have f3 := free_at hO3.blk 3
      have hok3 := hO3.ok
      obtain ⟨z, hz⟩ : ∃ z, max se t = z := ⟨_, rfl⟩
      have hm4 : OM w (w3.setCell ⟨b, 3, none⟩ (.int .u64 z)) fp b { s with ys := cutRaw sent t s.ys, sent := z } := om_set (s' := { s with ys := cutRaw sent t s.ys, sent := z }) hO3 hw3 (Upd.refl _ _) ((Upd.refl (fun j => j = b) w3).setCell ⟨b, 3, none⟩ (.inl rfl) _) (set_at hO3.blk 3 _) hO3.row (.inl rfl) rfl rfl
        ⟨hok3.len, hok3.base, by show z ≤ s.B.length; have h1 : s.sent ≤ s.B.length := hok3.sent; have := HTL.out; have := HLE.out; omega, hok3.nx, hok3.ny, hok3.lx, hok3.ly, hok3.bys⟩
      have hbn : og ≠ some b := fun q => by have := HGV2.out b q; have := HOL.out b (.inl rfl); omega
      have HSV4 := Lib.hid (HSV3.out.keeps ((Upd.refl (fun j => j = b) w3).setCell ⟨b, 3, none⟩ (.inl rfl) (.int .u64 z)) (fun g hg q => hbn (by rw [hg, q])))
      have HM4 := Lib.hid hm4
      have HBN := Lib.hid hbn
      have HZ := Lib.hid (show max s.sent t = z by rw [hse]; exact hz)
      clear ht3 hu3 hw3 hO3 hfp3 hok3 hm4 HSV HSV3 HO2 HW2 hbn c5 hse
      have hzs : (se < t ∧ z = t) ∨ (t < se ∧ z = se) ∨ (se = t ∧ z = t) := by omega
      clear hz
      by_cases htl2 : t = len
      · subst htl2
        have HFI := Lib.hid (fun v w5 (hm : OM w w5 fp b (s.went sent t)) (hv : SlG encB 5 w5 v og ((s.B.drop sent).take (t - sent))) => ons_mk w fp b s sent t v og en (decide (t = t) && en) w5 (by simp) hm hv HGV.out)
        have HWN := Lib.hid (fun (hq : en = false) => went_no s sent t z HZ.out (by rw [HE.out, hq]; simp))
        have HWY := Lib.hid (fun (hq : en = true) => went_yes s sent t z HZ.out (by rw [HE.out, hq, HLE.out]; simp))
        rcases hzs with ⟨q1, rfl⟩ | ⟨q1, rfl⟩ | ⟨q1, rfl⟩
        all_goals try subst q1
        all_goals go_wp2_with fail
        all_goals (obtain ⟨fp4, hoa4, hwe4⟩ := HM4.out)
        all_goals (refine (oend_e b _ fp4 _ (by exact hoa4) (en := en) (by exact HE.out)).mono ?_)
        all_goals (rintro e w5 ⟨rfl, q, rfl⟩)
        all_goals (have HM5 := Lib.hid (HM4.out.drewN q))
        all_goals (have HSV5 := Lib.hid (HSV4.out.drewN q))
        all_goals clear hoa4 hwe4 HM4 HSV4
        all_goals generalize World.drewN _ q = w5 at *
        all_goals (obtain ⟨fp5, hoa5, hw5⟩ := HM5.out)
        all_goals (obtain ⟨vb5, ob5, c5', oc5, d5, od5, hO5, hfp5⟩ := hoa5)
        all_goals rw [hfp5] at hw5
        all_goals have f7 := free_at hO5.blk 7
        all_goals have f9 := free_at hO5.blk 9
        all_goals have e7 := cell_at hO5.blk 7
        all_goals have e9 := cell_at hO5.blk 9
        all_goals have e79 := cell_at (set_at hO5.blk 7 (.bool true)) 9
        all_goals simp only [List.getElem?_toArray, List.getElem?_cons_succ, List.getElem?_cons_zero, Array.setIfInBounds] at e7 e9 e79
        all_goals have f79 := free_at (set_at hO5.blk 7 (.bool true)) 9
        all_goals have HMY := Lib.hid (fun (hq : en = true) => show OM w ((w5.setCell ⟨b, 7, none⟩ (.bool true)).setCell ⟨b, 9, none⟩ (.bool false)) fp b (s.went sent _) from by
          rw [← HWY.out hq]
          exact om_set hO5 hw5 (Upd.refl _ _) (((Upd.refl (fun j => j = b) w5).setCell ⟨b, 7, none⟩ (.inl rfl) _).setCell ⟨b, 9, none⟩ (.inl rfl) _) (set_at (set_at hO5.blk 7 _) 9 _) hO5.row (.inl rfl) rfl rfl
            ⟨hO5.ok.len, hO5.ok.base, hO5.ok.sent, hO5.ok.nx, hO5.ok.ny, hO5.ok.lx, hO5.ok.ly, hO5.ok.bys⟩)
        all_goals have HSVY := Lib.hid (HSV5.out.keeps (((Upd.refl (fun j => j = b) w5).setCell ⟨b, 7, none⟩ (.inl rfl) (.bool true)).setCell ⟨b, 9, none⟩ (.inl rfl) (.bool false)) (fun g hg q => HBN.out (by rw [hg, q])))
        all_goals clear hO5 hw5 hfp5
        all_goals cases en
        all_goals go_wp2_with fail
        all_goals (try simp only [Exit.inBlock, Exit.then])
        all_goals (try simp only [Exit.inBlock, Exit.then])
        all_goals (refine bodyPost_ret (results_tmp4 rfl _ _ _) rfl ?_)
        all_goals first
          | exact ⟨_, rfl, (by rw [← HWN.out trivial]; exact HM5.out), og, HSV5.out, HGV.out⟩
          | exact ⟨_, rfl, HMY.out trivial, og, HSVY.out, HGV.out⟩
      · have htl3 : ¬ (t : Int) = len := by omega
        have htl4 : ((t : Int) == (len : Int)) = false := by rw [eqN]; simp [htl2]
        have HFI := Lib.hid (fun v w5 (hm : OM w w5 fp b (s.went sent t)) (hv : SlG encB 5 w5 v og ((s.B.drop sent).take (t - sent))) => ons_mk w fp b s sent t v og false (decide (t = len) && en) w5 (by simp [htl2]) hm hv HGV.out)
        have HWN := Lib.hid (went_no s sent t z HZ.out (by rw [HLE.out]; simp [htl2]))
        rcases hzs with ⟨q1, rfl⟩ | ⟨q1, rfl⟩ | ⟨q1, rfl⟩
        all_goals try subst q1
        all_goals go_wp2_with fail
        all_goals (try simp only [Exit.inBlock, Exit.then])
        all_goals refine bodyPost_ret (results_tmp4 rfl _ _ _) rfl ?_
        all_goals exact HFI.out _ _ (by rw [← HWN.out]; exact HM4.out) HSV4.out
end Go.Proofs.Ytncfbaabhceeoaa

/- DERIVED. Walk of outbuf's Acked. -/
namespace Go.Proofs.Ytncfbaabhceeoaa
open Go.RowKit

/-- Acknowledged: what becomes of it. -/
def OS.ackM (s : OS) (zs yz : List Rg) (f : Bool) : OS := { s with xs := zs, ys := yz, ea := s.ea || (f && s.es) }
def OS.ackG (s : OS) (zs yz : List Rg) (at_ : Nat) (f : Bool) : OS := { s with xs := zs, ys := yz, ea := s.ea || (f && s.es), base := at_ }
set_option maxRecDepth 100000 in
set_option maxHeartbeats 2000000 in
theorem oackG_any (b : Nat) (s : OS) (fp : Nat → Prop) (off : Nat) (n : Int) (zs : List Rg) (at_ : Nat) (w : World) (h : OAt w b s fp) (ho : off < 18446744073709551616) (hn : -9223372036854775808 ≤ n) (hn2 : n ≤ 9223372036854775807) (f : Bool) (yz : List Rg) (hyz : cutRaw (s.kn off n).1 (s.kn off n).2 s.ys = yz) (hly : yz.length ≤ 100000)
    (hzs : s.ackX (s.kn off n) = zs) (hnz : Norm zs) (hlz : zs.length ≤ 100000) (hat : atOf zs s.B.length = at_) (hat1 : s.base ≤ at_) (hat2 : at_ ≤ s.B.length) :
    Calls Try.prog 44 #[.pointer (some ⟨b, 0, none⟩), .int .u64 off, .int .i64 n, .bool f] w fun e w' => e = .returned (.tuple #[]) ∧ OM w w' fp b (s.ackG zs yz at_ f) := by
  obtain ⟨i0, hi0, hz0, hz1, hz2'⟩ := info_parts infoB
  have hlen := h.ok.len
  have hsl := h.ok.sent
  obtain ⟨from_, to_, hkn⟩ : ∃ f t, s.kn off n = (f, t) := ⟨_, _, rfl⟩
  have hto : to_ ≤ s.B.length ∧ from_ ≤ s.B.length := by
    unfold OS.kn at hkn
    simp only [Prod.mk.injEq] at hkn
    omega
  have H := Lib.hid h
  have HYZ := Lib.hid (show cutRaw from_ to_ s.ys = yz by rw [← hyz, hkn])
  have HNY := Lib.hid (show Norm yz by rw [← hyz]; exact cut_norm _ _ _ h.ok.ny)
  have HLY := Lib.hid hly
  have HKN := Lib.hid hkn
  have HZS := Lib.hid (show (if from_ < to_ ∧ to_ ≤ 4611686018427387904 then addL many s.xs from_ to_ else s.xs) = zs by
    rw [← hzs, hkn]
    unfold OS.ackX
    by_cases q : from_ < to_
    · rw [if_pos ⟨q, by omega⟩, if_pos q]
    · rw [if_neg (fun q2 => q q2.1), if_neg q])
  have HNZ := Lib.hid (And.intro hnz hlz)
  have HAT := Lib.hid (And.intro hat (And.intro hat1 hat2))
  clear h hyz hly hkn hzs hnz hlz hat hat1 hat2
  obtain ⟨hto1, hto2⟩ := hto
  go_enter Try.func44, Try.ntmps44
  go_wp2_with fail
  refine (oknown_q b s fp off n _ (by exact H.out) ho hn hn2).mono ?_
  rw [HKN.out]
  rintro e w1 ⟨rfl, q, rfl⟩
  have H1 := Lib.hid ((OM.refl H.out).drewN q)
  generalize w.drewN q = w1 at *
  obtain ⟨fp1, hoa, hw1⟩ := H1.out
  obtain ⟨vb, ob, c, oc, d, od, hO, hfp⟩ := hoa
  rw [hfp] at hw1
  have HO := Lib.hid hO
  have HW := Lib.hid hw1
  have c4 : w1.cell? ⟨b, 4, none⟩ = some (.pointer (some ⟨c, 0, none⟩)) := (cell_at hO.blk 4).trans rfl
  clear hO hfp hw1 H1
  go_wp2_with fail
  refine (add_any c many oc s.xs from_ to_ _ (by exact HO.out.sx) (by decide) (by decide) (by have := HO.out.ok.lx; omega)).mono ?_
  rw [HZS.out]
  rintro e w2 ⟨rfl, ht⟩
  have H2 := Lib.hid (om_turnC HO.out HW.out ht HNZ.out.1 HNZ.out.2)
  clear ht HO HW c4
  obtain ⟨fp2, hoa, hw2⟩ := H2.out
  obtain ⟨vb, ob, c, oc, d, od, hO, hfp⟩ := hoa
  rw [hfp] at hw2
  have HO := Lib.hid hO
  have HW := Lib.hid hw2
  have c5 : w2.cell? ⟨b, 5, none⟩ = some (.pointer (some ⟨d, 0, none⟩)) := (cell_at hO.blk 5).trans rfl
  clear hO hfp hw2 H2
  go_wp2_with fail
  refine (cut_any d many od s.ys from_ to_ _ (by exact HO.out.sy) (by decide) (by decide) (by omega) (by omega) HO.out.ok.ny (by have h9 : s.ys.length ≤ 100000 := HO.out.ok.ly; omega)).mono ?_
  rw [HYZ.out]
  rintro e w3 ⟨rfl, ht⟩
  rw [trim_all (by have := HLY.out; unfold many; omega)] at ht
  have hm3 := om_turnD HO.out HW.out ht HNY.out HLY.out
  have H3 := Lib.hid hm3
  clear ht HO HW c5 hm3
  go_upto_region 3 with fail
  go_cut [40] (fun v wx => v = .bool (f && s.es) ∧ wx = w3)
  case first =>
    obtain ⟨fp3, hoa, hw3⟩ := H3.out
    obtain ⟨vb, ob, c, oc, d, od, hO, hfp⟩ := hoa
    have e7 : w3.cell? ⟨b, 7, none⟩ = some (.bool s.es) := (cell_at hO.blk 7).trans rfl
    clear hO hfp hw3 H3
    cases f
    · go_wp2_with fail
      go_meet
      case rel => exact ⟨rfl, rfl⟩
    · go_wp2_with fail
      go_meet
      case rel => exact ⟨rfl, rfl⟩
  case rest =>
  obtain ⟨rfl, rfl⟩ := hcut
  generalize wc = w3 at *
  obtain ⟨q, hq⟩ : ∃ q, (f && s.es) = q := ⟨_, rfl⟩
  have HQ := Lib.hid hq
  rw [hq]
  clear hq
  go_upto_if 40 with fail
  go_cut [] (fun wx => OM w wx fp b (s.ackM zs yz f))
  case first =>
    obtain ⟨fp3, hoa, hw3⟩ := H3.out
    obtain ⟨vb, ob, c, oc, d, od, hO, hfp⟩ := hoa
    rw [hfp] at hw3
    have e8 : w3.cell? ⟨b, 8, none⟩ = some (.bool s.ea) := (cell_at hO.blk 8).trans rfl
    have q8 := free_at hO.blk 8
    have HM0 := Lib.hid (fun (hq : (s.ea || (f && s.es)) = s.ea) => show OM w w3 fp b (s.ackM zs yz f) from by
      unfold OS.ackM
      rw [hq]
      exact H3.out)
    have HM1 := Lib.hid (fun (hq : (s.ea || (f && s.es)) = true) => show OM w (w3.setCell ⟨b, 8, none⟩ (.bool true)) fp b (s.ackM zs yz f) from by
      unfold OS.ackM
      rw [hq]
      exact om_set (s' := { s with xs := zs, ys := yz, ea := true }) hO hw3 (Upd.refl _ _) ((Upd.refl (fun j => j = b) w3).setCell ⟨b, 8, none⟩ (.inl rfl) _) (set_at hO.blk 8 _) hO.row (.inl rfl) rfl rfl ⟨hO.ok.len, hO.ok.base, hO.ok.sent, hO.ok.nx, hO.ok.ny, hO.ok.lx, hO.ok.ly, hO.ok.bys⟩)
    clear hO hfp hw3 H3
    cases q
    · have HE := Lib.hid (show (s.ea || (f && s.es)) = s.ea by rw [HQ.out]; simp)
      clear HQ
      go_wp2_with fail
      go_meet
      case rel => exact HM0.out HE.out
    · have HE := Lib.hid (show (s.ea || (f && s.es)) = true by rw [HQ.out]; simp)
      clear HQ
      go_wp2_with fail
      go_meet
      case rel => exact HM1.out HE.out
  case rest =>
  have H3 := Lib.hid (show OM w wc fp b (s.ackM zs yz f) from hcut)
  clear hcut
  generalize wc = w3 at *
  obtain ⟨fp3, hoa, hw3⟩ := H3.out
  obtain ⟨vb, ob, c, oc, d, od, hO, hfp⟩ := hoa
  rw [hfp] at hw3
  have HO := Lib.hid hO
  have HW := Lib.hid hw3
  clear hO hfp hw3 H3
  obtain ⟨len, hln⟩ : ∃ len, s.B.length = len := ⟨_, rfl⟩
  have HLE := Lib.hid hln
  rw [hln] at hlen hsl hto1 hto2 HAT
  obtain ⟨lo, hi, ok, hga⟩ : ∃ lo hi ok, gapL zs 0 len = ((lo, hi), ok) := ⟨_, _, _, rfl⟩
  have HGA := Lib.hid hga
  have e2 : w3.cell? ⟨b, 2, none⟩ = some (.int .u64 len) := by rw [cell_at HO.out.blk, ← hln]; rfl
  have HSX := Lib.hid (show SetAt w3.drew c many oc zs from HO.out.sx.below (Below.refl _ _).drew)
  have HSof := Lib.hid (show ∀ W, Below w3.drew.heap.size w3.drew W → W.cell? ⟨b, 4, none⟩ = some (.pointer (some ⟨c, 0, none⟩)) ∧ W.cell? ⟨b, 2, none⟩ = some (.int .u64 len) from fun W h => by
    have hk := below_keeps h (show w3.drew.heap[b]? = _ from HO.out.blk) (heap_lt HO.out.blk)
    refine ⟨(cell_at hk 4).trans rfl, ?_⟩
    rw [cell_at hk, ← hln]
    rfl)
  have HNX := Lib.hid HNZ.out.1
  clear hln hga
  go_upto_region 6 with fail
  go_cut [11, 12] (fun v a wx => ∃ z, v = .pointer (some ⟨z, 0, none⟩) ∧ a = .bool ok ∧ wx.cell? ⟨z, 0, none⟩ = some (.int .u64 lo) ∧ Below w3.drew.heap.size w3.drew wx)
  case first =>
    go_wp2_with fail
    have hb : Below w3.drew.heap.size w3.drew w3.drew := Below.refl _ _
    refine wp_region_till (S := fun w' => w'.cell? ⟨b, 4, none⟩ = some (.pointer (some ⟨c, 0, none⟩)) ∧ w'.cell? ⟨b, 2, none⟩ = some (.int .u64 len)) [] (by kernel_rfl) (by exact HSof.out _ hb) (fun hHeld => ?_)
    refine wpTill_take0 (i := 0) (oi := ⟨some 49, _, _, _, _, _⟩) (v := ?_) rfl (by kernel_rfl) (fun _ _ _ h => h) (Or.inl ⟨by rfl, ?_⟩) (fun _ => hHeld) ?_
    rotate_left
    · intro w hSw
      (try dsimp only at hSw)
      go_simp
      try with_reducible rfl
    try simp only [Act.put, List.setIfInBounds_toArray, List.set_cons_zero, List.set_cons_succ]
    refine wpTill_take0 (i := 1) (oi := ⟨some 50, _, _, _, _, _⟩) (v := ?_) rfl (by kernel_rfl) (fun _ _ _ h => h) (Or.inl ⟨by rfl, ?_⟩) (fun _ => hHeld) ?_
    rotate_left
    · intro w hSw
      (try dsimp only at hSw)
      go_simp
      try with_reducible rfl
    try simp only [Act.put, List.setIfInBounds_toArray, List.set_cons_zero, List.set_cons_succ]
    refine wpTill_take0 (i := 2) (oi := ⟨some 51, _, _, _, _, _⟩) (v := ?_) rfl (by kernel_rfl) (fun _ _ _ h => h) (Or.inl ⟨by rfl, ?_⟩) (fun _ => hHeld) ?_
    rotate_left
    · intro w hSw
      (try dsimp only at hSw)
      go_simp
      try with_reducible rfl
    try simp only [Act.put, List.setIfInBounds_toArray, List.set_cons_zero, List.set_cons_succ]
    refine wpTill_take (i := 3) (oi := ⟨some 52, _, _, _, _, _⟩) (v := ?_) rfl (by kernel_rfl) (fun _ _ _ h => h) (Or.inl ⟨by rfl, ?_⟩) (by exact hHeld) ?_
    rotate_left
    · intro w hSw
      (try dsimp only at hSw)
      go_simp
      try with_reducible rfl
    try simp only [Act.put, List.setIfInBounds_toArray, List.set_cons_zero, List.set_cons_succ]
    refine wpTill_take0 (i := 4) (oi := ⟨some 53, _, _, _, _, _⟩) (v := ?_) rfl (by kernel_rfl) (fun _ _ _ h => h) (Or.inl ⟨by rfl, ?_⟩) (fun _ => hHeld) ?_
    rotate_left
    · intro w hSw
      (try dsimp only at hSw)
      go_simp
      try with_reducible rfl
    try simp only [Act.put, List.setIfInBounds_toArray, List.set_cons_zero, List.set_cons_succ]
    refine wpTill_take0 (i := 5) (oi := ⟨some 54, _, _, _, _, _⟩) (v := ?_) rfl (by kernel_rfl) (fun _ _ _ h => h) (Or.inl ⟨by rfl, ?_⟩) (fun _ => hHeld) ?_
    rotate_left
    · intro w hSw
      (try dsimp only at hSw)
      go_simp
      try with_reducible rfl
    try simp only [Act.put, List.setIfInBounds_toArray, List.set_cons_zero, List.set_cons_succ]
    refine wpTill_take0 (i := 6) (oi := ⟨some 55, _, _, _, _, _⟩) (v := ?_) rfl (by kernel_rfl) (fun _ _ _ h => h) (Or.inl ⟨by rfl, ?_⟩) (fun _ => hHeld) ?_
    rotate_left
    · intro w hSw
      (try dsimp only at hSw)
      go_simp
      try with_reducible rfl
    try simp only [Act.put, List.setIfInBounds_toArray, List.set_cons_zero, List.set_cons_succ]
    refine wpTill_take (i := 7) (oi := ⟨some 56, _, _, _, _, _⟩) (v := ?_) rfl (by kernel_rfl) (fun _ _ _ h => h) (Or.inl ⟨by rfl, ?_⟩) (by exact hHeld) ?_
    rotate_left
    · intro w hSw
      (try dsimp only at hSw)
      go_simp
      try with_reducible rfl
    try simp only [Act.put, List.setIfInBounds_toArray, List.set_cons_zero, List.set_cons_succ]
    refine wpTill_ready (rs := [8, 12]) (by kernel_rfl) (by simp) ?_
    refine AllTill.cons (o := ⟨some 57, _, _, _, _, _⟩) rfl (fun K hK => ?_) ?_
    · go_simp
      go_at_call 66
      refine (gap_any c many oc zs 0 len _ (by exact HSX.out.below hb) (by omega) (by omega) HNX.out).mono ?_
      rw [HGA.out]
      rintro e W8 ⟨rfl, hx8⟩
      have hb := below_call hb hb.size hx8
      go_wp2_with fail
      refine hK.out _ _ (by exact HSof.out _ hb) (fun hHeld => ?_)
      clear hK K
      try simp only [Act.put, List.setIfInBounds_toArray, List.set_cons_zero, List.set_cons_succ]
      refine wpTill_take0 (i := 9) (oi := ⟨some 48, _, _, _, _, _⟩) (v := ?_) rfl (by kernel_rfl) (fun _ _ _ h => h) (Or.inl ⟨by rfl, ?_⟩) (fun _ => hHeld) ?_
      rotate_left
      · intro w hSw
        (try dsimp only at hSw)
        go_simp
        try with_reducible rfl
      try simp only [Act.put, List.setIfInBounds_toArray, List.set_cons_zero, List.set_cons_succ]
      refine wpTill_take0 (i := 10) (oi := ⟨some 58, _, _, _, _, _⟩) (v := ?_) rfl (by kernel_rfl) (fun _ _ _ h => h) (Or.inl ⟨by rfl, ?_⟩) (fun _ => hHeld) ?_
      rotate_left
      · intro w hSw
        (try dsimp only at hSw)
        go_simp
        try with_reducible rfl
      try simp only [Act.put, List.setIfInBounds_toArray, List.set_cons_zero, List.set_cons_succ]
      refine wpTill_take0 (i := 11) (oi := ⟨some 59, _, _, _, _, _⟩) (v := ?_) rfl (by kernel_rfl) (fun _ _ _ h => h) (Or.inl ⟨by rfl, ?_⟩) (fun _ => hHeld) ?_
      rotate_left
      · intro w hSw
        (try dsimp only at hSw)
        go_simp
        try with_reducible rfl
      try simp only [Act.put, List.setIfInBounds_toArray, List.set_cons_zero, List.set_cons_succ]
      refine wpTill_ready (rs := [12]) (by kernel_rfl) (by simp) ?_
      refine AllTill.cons (o := ⟨some 11, _, _, _, _, _⟩) rfl (fun K hK => ?_) AllTill.nil
      go_simp
      have hb8 := hb
      have hb := hb.alloc hb.size (.cells #[.int .u64 0, .int .u64 0] 92)
      refine hK.out _ _ (by exact HSof.out _ hb) (fun hHeld => ?_)
      clear hK K
      try simp only [Act.put, List.setIfInBounds_toArray, List.set_cons_zero, List.set_cons_succ]
      refine wpTill_ready (rs := [13]) (by kernel_rfl) (by simp) ?_
      refine AllTill.cons (o := ⟨none, _, _, _, _, _⟩) rfl (fun K hK => ?_) AllTill.nil
      go_simp
      have hb := hb8.alloc hb8.size (.cells #[.int .u64 lo, .int .u64 hi] 92)
      have hzz := alloc_at W8 (.cells #[.int .u64 lo, .int .u64 hi] 92)
      refine hK.out _ _ (by exact HSof.out _ hb) (fun hHeld => ?_)
      clear hK K
      try simp only [Act.put, List.setIfInBounds_toArray, List.set_cons_zero, List.set_cons_succ]
      refine wpTill_ready (rs := [14]) (by kernel_rfl) (by simp) ?_
      refine AllTill.cons (o := ⟨some 12, _, _, _, _, _⟩) rfl (fun K hK => ?_) AllTill.nil
      go_simp
      refine hK.out _ _ (by exact HSof.out _ hb) (fun hHeld => ?_)
      clear hK K
      try simp only [Act.put, List.setIfInBounds_toArray, List.set_cons_zero, List.set_cons_succ]
      refine wpTill_done (by kernel_rfl) ?_ _
      go_wp2_with fail
      go_meet
      case rel => exact ⟨_, rfl, rfl, (cell_at hzz 0).trans rfl, hb⟩
    refine AllTill.cons (o := ⟨some 11, _, _, _, _, _⟩) rfl (fun K hK => ?_) ?_
    · go_simp
      have hzz : (w3.drew.alloc (.cells #[.int .u64 0, .int .u64 0] 92)).heap[w3.heap.size]? = some (.cells #[.int .u64 0, .int .u64 0] 92 (0, 0)) := alloc_at w3.drew _
      have hz12 : w3.drew.heap.size ≤ w3.heap.size := Nat.le_refl _
      have hb := hb.alloc hb.size (.cells #[.int .u64 0, .int .u64 0] 92)
      refine hK.out _ _ (by exact HSof.out _ hb) (fun hHeld => ?_)
      clear hK K
      try simp only [Act.put, List.setIfInBounds_toArray, List.set_cons_zero, List.set_cons_succ]
      refine wpTill_ready (rs := [8]) (by kernel_rfl) (by simp) ?_
      refine AllTill.cons (o := ⟨some 57, _, _, _, _, _⟩) rfl (fun K hK => ?_) AllTill.nil
      go_simp
      go_at_call 66
      refine (gap_any c many oc zs 0 len _ (by exact HSX.out.below hb) (by omega) (by omega) HNX.out).mono ?_
      rw [HGA.out]
      rintro e W8 ⟨rfl, hx8⟩
      have hb := below_call hb hb.size hx8
      have hzz := below_keeps hx8 hzz (heap_lt hzz)
      go_wp2_with fail
      refine hK.out _ _ (by exact HSof.out _ hb) (fun hHeld => ?_)
      clear hK K
      try simp only [Act.put, List.setIfInBounds_toArray, List.set_cons_zero, List.set_cons_succ]
      refine wpTill_take0 (i := 9) (oi := ⟨some 48, _, _, _, _, _⟩) (v := ?_) rfl (by kernel_rfl) (fun _ _ _ h => h) (Or.inl ⟨by rfl, ?_⟩) (fun _ => hHeld) ?_
      rotate_left
      · intro w hSw
        (try dsimp only at hSw)
        go_simp
        try with_reducible rfl
      try simp only [Act.put, List.setIfInBounds_toArray, List.set_cons_zero, List.set_cons_succ]
      refine wpTill_take0 (i := 10) (oi := ⟨some 58, _, _, _, _, _⟩) (v := ?_) rfl (by kernel_rfl) (fun _ _ _ h => h) (Or.inl ⟨by rfl, ?_⟩) (fun _ => hHeld) ?_
      rotate_left
      · intro w hSw
        (try dsimp only at hSw)
        go_simp
        try with_reducible rfl
      try simp only [Act.put, List.setIfInBounds_toArray, List.set_cons_zero, List.set_cons_succ]
      refine wpTill_take0 (i := 11) (oi := ⟨some 59, _, _, _, _, _⟩) (v := ?_) rfl (by kernel_rfl) (fun _ _ _ h => h) (Or.inl ⟨by rfl, ?_⟩) (fun _ => hHeld) ?_
      rotate_left
      · intro w hSw
        (try dsimp only at hSw)
        go_simp
        try with_reducible rfl
      try simp only [Act.put, List.setIfInBounds_toArray, List.set_cons_zero, List.set_cons_succ]
      refine wpTill_ready (rs := [13]) (by kernel_rfl) (by simp) ?_
      refine AllTill.cons (o := ⟨none, _, _, _, _, _⟩) rfl (fun K hK => ?_) AllTill.nil
      have z0 := cell_at hzz 0
      have z1 := cell_at hzz 1
      have y0 := free_at hzz 0
      have y1 := free_at hzz 1
      go_simp
      have hb := (hb.setCell (p := ⟨w3.heap.size, 0, none⟩) hz12 (.int .u64 lo)).setCell (p := ⟨w3.heap.size, 1, none⟩) hz12 (.int .u64 hi)
      have hzz := set_at (set_at hzz 0 (.int .u64 lo)) 1 (.int .u64 hi)
      refine hK.out _ _ (by exact HSof.out _ hb) (fun hHeld => ?_)
      clear hK K
      try simp only [Act.put, List.setIfInBounds_toArray, List.set_cons_zero, List.set_cons_succ]
      refine wpTill_ready (rs := [14]) (by kernel_rfl) (by simp) ?_
      refine AllTill.cons (o := ⟨some 12, _, _, _, _, _⟩) rfl (fun K hK => ?_) AllTill.nil
      go_simp
      refine hK.out _ _ (by exact HSof.out _ hb) (fun hHeld => ?_)
      clear hK K
      try simp only [Act.put, List.setIfInBounds_toArray, List.set_cons_zero, List.set_cons_succ]
      refine wpTill_done (by kernel_rfl) ?_ _
      go_wp2_with fail
      go_meet
      case rel => exact ⟨_, rfl, rfl, (cell_at hzz 0).trans rfl, hb⟩
    exact AllTill.nil
  case rest =>
    obtain ⟨z, rfl, rfl, hz0, hb4⟩ := hcut
    generalize wc = w4 at *
    have hb34 : Below w3.heap.size w3 w4 := below_call (Below.refl _ _).drew (Nat.le_refl _) hb4
    have HO4 := Lib.hid (HO.out.below hb34)
    have HW4 := Lib.hid (HW.out.later hb34)
    have hatv : (if ok then lo else len) = at_ := by
      have := HAT.out.1
      unfold atOf at this
      rw [HGA.out] at this
      exact this
    obtain ⟨_, hat1, hat2⟩ := HAT.out
    clear hb4 hb34 HSof HSX HO HW e2
    go_upto_if 60 with fail
    go_cut [10] (fun v wx => v = .int .u64 at_ ∧ wx = w4)
    case first =>
      cases ok
      · simp at hatv
        subst hatv
        go_wp2_with fail
        go_meet
        case rel => exact ⟨rfl, rfl⟩
      · simp at hatv
        subst hatv
        go_wp2_with fail
        go_meet
        case rel => exact ⟨rfl, rfl⟩
    case rest =>
      obtain ⟨rfl, rfl⟩ := hcut
      clear hatv hz0
      generalize wc = w4 at *
      obtain ⟨oB, cB, e0, hcB, hcB2⟩ := HO4.out.row.shape
      obtain ⟨base, hbase⟩ : ∃ base, s.base = base := ⟨_, rfl⟩
      have HBA := Lib.hid hbase
      obtain ⟨n0, hn0⟩ : ∃ n0, len - base = n0 := ⟨_, rfl⟩
      have hdl : (s.B.drop s.base).length = n0 := by rw [List.length_drop, HLE.out, hbase]; exact hn0
      rw [show (((s.ackM zs yz f).B.drop (s.ackM zs yz f).base)).length = n0 from hdl] at e0 hcB
      subst e0
      rw [hbase] at hat1
      obtain ⟨l, hl, hl2⟩ : ∃ l : Nat, (at_ : Int) - (base : Int) = (l : Int) ∧ at_ - base = l := ⟨at_ - base, by omega, rfl⟩
      have hln0 : l ≤ n0 := by omega
      have hwl : IntKind.u64.wrap (l : Int) = l := IntWalk.u64_in _ (by omega)
      have HBK4 := Lib.hid (show w4.drew.heap[b]? = some (.cells #[.slice oB n0 cB, .int .u64 base, .int .u64 s.B.length, .int .u64 s.sent, .pointer (some ⟨c, 0, none⟩), .pointer (some ⟨d, 0, none⟩), .bool s.fi, .bool s.es, .bool (s.ea || (f && s.es)), .bool s.el] 107 (0, 0)) from by
        rw [← hbase]
        exact HO4.out.blk)
      have HRT := Lib.hid (show ∃ og', SlO encB 1 5 w4.drew (tailV oB 1 n0 cB l) og' (s.B.drop at_) ∧ (og' = ob ∨ og' = none) from by
        obtain ⟨og', h1, h2⟩ := SlO.tail (HO4.out.row.below (Below.refl _ _).drew) hln0
        refine ⟨og', ?_, h2⟩
        have e : (s.B.drop s.base).drop l = s.B.drop at_ := by rw [List.drop_drop, hbase, show base + l = at_ by omega]
        rw [← e]
        exact h1)
      have HFIN := Lib.hid (show OM w ((w4.drew.setCell ⟨b, 0, none⟩ (tailV oB 1 n0 cB l)).setCell ⟨b, 1, none⟩ (.int .u64 (at_ : Nat))) fp b (s.ackG zs yz at_ f) from by
        obtain ⟨og', h1, h2⟩ := HRT.out
        have ho := HO4.out.ok
        refine om_set (s' := s.ackG zs yz at_ f) (HO4.out.below (Below.refl _ _).drew) (HW4.out.later (Below.refl _ _).drew) (Upd.refl _ _) (((Upd.refl (fun j => j = b) w4.drew).setCell ⟨b, 0, none⟩ (.inl rfl) _).setCell ⟨b, 1, none⟩ (.inl rfl) _) (set_at (set_at HBK4.out 0 (tailV oB 1 n0 cB l)) 1 (.int .u64 (at_ : Nat))) h1 (h2.imp id .inl) rfl rfl ⟨ho.len, by show at_ ≤ s.B.length; rw [HLE.out]; exact hat2, ho.sent, ho.nx, ho.ny, ho.lx, ho.ly, ho.bys⟩)
      obtain ⟨oT, hT⟩ : ∃ oT, tailV oB 1 n0 cB l = .slice oT (n0 - l) (cB - l) := ⟨_, rfl⟩
      rw [hT] at HFIN
      have HTT := Lib.hid hT
      have e1 : w4.cell? ⟨b, 1, none⟩ = some (.int .u64 base) := (cell_at (show w4.heap[b]? = _ from HBK4.out) 1).trans rfl
      have q1 : w4.frozen? ⟨b, 1, none⟩ = false := free_at (show w4.heap[b]? = _ from HBK4.out) 1
      clear hdl hn0 hl2 hat1 hat2 hbase hT HRT
      go_wp2_with fail
      refine wp_region_till (S := fun w' => w'.cell? ⟨b, 0, none⟩ = some (.slice oB n0 cB) ∧ w'.cell? ⟨b, 1, none⟩ = some (.int .u64 base)) [14] (by kernel_rfl) (by exact ⟨(cell_at HBK4.out 0).trans rfl, (cell_at HBK4.out 1).trans rfl⟩) (fun hHeld => ?_)
      refine wpTill_take0 (i := 0) (oi := ⟨some 63, _, _, _, _, _⟩) (v := ?_) rfl (by kernel_rfl) (fun _ _ _ h => h) (Or.inl ⟨by rfl, ?_⟩) (fun _ => hHeld) ?_
      rotate_left
      · intro w hSw
        (try dsimp only at hSw)
        go_simp
        try with_reducible rfl
      try simp only [Act.put, List.setIfInBounds_toArray, List.set_cons_zero, List.set_cons_succ]
      refine wpTill_take0 (i := 1) (oi := ⟨some 64, _, _, _, _, _⟩) (v := ?_) rfl (by kernel_rfl) (fun _ _ _ h => h) (Or.inl ⟨by rfl, ?_⟩) (fun _ => hHeld) ?_
      rotate_left
      · intro w hSw
        (try dsimp only at hSw)
        go_simp
        try with_reducible rfl
      try simp only [Act.put, List.setIfInBounds_toArray, List.set_cons_zero, List.set_cons_succ]
      refine wpTill_take0 (i := 2) (oi := ⟨some 65, _, _, _, _, _⟩) (v := ?_) rfl (by kernel_rfl) (fun _ _ _ h => h) (Or.inl ⟨by rfl, ?_⟩) (fun _ => hHeld) ?_
      rotate_left
      · intro w hSw
        (try dsimp only at hSw)
        go_simp
        try with_reducible rfl
      try simp only [Act.put, List.setIfInBounds_toArray, List.set_cons_zero, List.set_cons_succ]
      refine wpTill_take0 (i := 3) (oi := ⟨some 66, _, _, _, _, _⟩) (v := ?_) rfl (by kernel_rfl) (fun _ _ _ h => h) (Or.inl ⟨by rfl, ?_⟩) (fun _ => hHeld) ?_
      rotate_left
      · intro w hSw
        (try dsimp only at hSw)
        go_simp
        try with_reducible rfl
      try simp only [Act.put, List.setIfInBounds_toArray, List.set_cons_zero, List.set_cons_succ]
      refine wpTill_take (i := 4) (oi := ⟨some 67, _, _, _, _, _⟩) (v := ?_) rfl (by kernel_rfl) (fun _ _ _ h => h) (Or.inl ⟨by rfl, ?_⟩) (by exact hHeld) ?_
      rotate_left
      · intro w hSw
        (try dsimp only at hSw)
        go_simp
        try with_reducible rfl
      try simp only [Act.put, List.setIfInBounds_toArray, List.set_cons_zero, List.set_cons_succ]
      refine wpTill_take0 (i := 5) (oi := ⟨some 68, _, _, _, _, _⟩) (v := ?_) rfl (by kernel_rfl) (fun _ _ _ h => h) (Or.inl ⟨by rfl, ?_⟩) (fun _ => hHeld) ?_
      rotate_left
      · intro w hSw
        (try dsimp only at hSw)
        go_simp
        try with_reducible rfl
      try simp only [Act.put, List.setIfInBounds_toArray, List.set_cons_zero, List.set_cons_succ]
      refine wpTill_take0 (i := 6) (oi := ⟨some 69, _, _, _, _, _⟩) (v := ?_) rfl (by kernel_rfl) (fun _ _ _ h => h) (Or.inl ⟨by rfl, ?_⟩) (fun _ => hHeld) ?_
      rotate_left
      · intro w hSw
        (try dsimp only at hSw)
        go_simp
        try with_reducible rfl
      try simp only [Act.put, List.setIfInBounds_toArray, List.set_cons_zero, List.set_cons_succ]
      refine wpTill_take0 (i := 7) (oi := ⟨some 70, _, _, _, _, _⟩) (v := ?_) rfl (by kernel_rfl) (fun _ _ _ h => h) (Or.inl ⟨by rfl, ?_⟩) (fun _ => hHeld) ?_
      rotate_left
      · intro w hSw
        (try dsimp only at hSw)
        go_simp
        try with_reducible rfl
      try simp only [Act.put, List.setIfInBounds_toArray, List.set_cons_zero, List.set_cons_succ]
      refine wpTill_take0 (i := 8) (oi := ⟨some 71, _, _, _, _, _⟩) (v := ?_) rfl (by kernel_rfl) (fun _ _ _ h => h) (Or.inl ⟨by rfl, ?_⟩) (fun _ => hHeld) ?_
      rotate_left
      · intro w hSw
        (try dsimp only at hSw)
        go_simp
        try with_reducible rfl
      try simp only [Act.put, List.setIfInBounds_toArray, List.set_cons_zero, List.set_cons_succ]
      refine wpTill_take (i := 9) (oi := ⟨some 72, _, _, _, _, _⟩) (v := ?_) rfl (by kernel_rfl) (fun _ _ _ h => h) (Or.inl ⟨by rfl, ?_⟩) (by exact hHeld) ?_
      rotate_left
      · intro w hSw
        (try dsimp only at hSw)
        go_simp
        try with_reducible rfl
      try simp only [Act.put, List.setIfInBounds_toArray, List.set_cons_zero, List.set_cons_succ]
      refine wpTill_take0 (i := 10) (oi := ⟨some 73, _, _, _, _, _⟩) (v := ?_) rfl (by kernel_rfl) (fun _ _ _ h => h) (Or.inl ⟨by rfl, ?_⟩) (fun _ => hHeld) ?_
      rotate_left
      · intro w hSw
        (try dsimp only at hSw)
        go_simp
        try with_reducible rfl
      try simp only [Act.put, List.setIfInBounds_toArray, List.set_cons_zero, List.set_cons_succ]
      refine wpTill_take0 (i := 11) (oi := ⟨some 74, _, _, _, _, _⟩) (v := .slice oT (n0 - l) (cB - l)) rfl (by kernel_rfl) (fun _ _ _ h => h) (Or.inl ⟨by rfl, ?_⟩) (fun _ => hHeld) ?_
      · intro w hSw
        refine Eq.trans (exec_tailK Try.underlying36 hi0 rfl rfl rfl hln0 hcB) ?_
        rw [hz1, HTT.out]
      try simp only [Act.put, List.setIfInBounds_toArray, List.set_cons_zero, List.set_cons_succ]
      refine wpTill_take0 (i := 12) (oi := ⟨some 75, _, _, _, _, _⟩) (v := ?_) rfl (by kernel_rfl) (fun _ _ _ h => h) (Or.inl ⟨by rfl, ?_⟩) (fun _ => hHeld) ?_
      rotate_left
      · intro w hSw
        (try dsimp only at hSw)
        go_simp
        try with_reducible rfl
      try simp only [Act.put, List.setIfInBounds_toArray, List.set_cons_zero, List.set_cons_succ]
      refine wpTill_take0 (i := 13) (oi := ⟨some 76, _, _, _, _, _⟩) (v := ?_) rfl (by kernel_rfl) (fun _ _ _ h => h) (Or.inl ⟨by rfl, ?_⟩) (fun _ => hHeld) ?_
      rotate_left
      · intro w hSw
        (try dsimp only at hSw)
        go_simp
        try with_reducible rfl
      try simp only [Act.put, List.setIfInBounds_toArray, List.set_cons_zero, List.set_cons_succ]
      refine wpTill_ready (rs := [14]) (by kernel_rfl) (by simp) ?_
      refine AllTill.consD (o := ⟨none, _, _, _, _, _⟩) rfl (by kernel_rfl) (fun K hK => ?_) AllTill.nil
      have e0 := cell_at HBK4.out 0
      have q0 := free_at HBK4.out 0
      go_simp
      refine hK.out _ _ ?_
      clear hK K
      try simp only [Act.put, List.setIfInBounds_toArray, List.set_cons_zero, List.set_cons_succ]
      refine wpTill_done (by kernel_rfl) ?_ _
      go_wp2_with fail
      go_end0
      exact ⟨rfl, HFIN.out⟩
end Go.Proofs.Ytncfbaabhceeoaa

/- DERIVED. Plain laws: counting the numbers of a list of ranges; gaps. -/
namespace Go.Proofs.Ytncfbaabhceeoaa
open Go.RowKit

/-- How many numbers below n are such. -/
def cnt (p : Nat → Bool) : Nat → Nat
  | 0 => 0
  | n + 1 => cnt p n + if p n then 1 else 0
theorem cnt_or {p q : Nat → Bool} : ∀ n, (∀ k, k < n → p k = true → q k = false) → cnt (fun k => p k || q k) n = cnt p n + cnt q n
  | 0, _ => rfl
  | n + 1, h => by
    simp only [cnt]
    rw [cnt_or n (fun k hk => h k (by omega))]
    have h1 := h n (by omega)
    have key : ∀ a b : Bool, (a = true → b = false) → (if (a || b) = true then 1 else 0) = (if a = true then 1 else 0) + (if b = true then 1 else 0) := by decide
    rw [key _ _ h1]
    omega
theorem cnt_eq {p q : Nat → Bool} : ∀ n, (∀ k, k < n → p k = q k) → cnt p n = cnt q n
  | 0, _ => rfl
  | n + 1, h => by simp only [cnt]; rw [cnt_eq n (fun k hk => h k (by omega)), h n (by omega)]
theorem cnt_rg (r : Rg) (h : r.1 < r.2) : ∀ n, cnt (fun k => hasP k r) n = min n r.2 - min n r.1
  | 0 => by simp [cnt]
  | n + 1 => by
    simp only [cnt]
    rw [cnt_rg r h n]
    simp only [hasP, Bool.and_eq_true, decide_eq_true_eq]
    split <;> omega
def mem (xs : List Rg) (k : Nat) : Bool := xs.any (hasP k)
theorem mem_lo {xs : List Rg} (_hn : Norm xs) {a : Nat} (h : ∀ r ∈ xs, a < r.1) {k : Nat} (hk : k ≤ a) : mem xs k = false := by
  unfold mem
  rw [List.any_eq_false]
  intro r hr
  have := h r hr
  simp [hasP]
  omega
theorem cntL_cnt (a : Nat) : ∀ xs : List Rg, Norm xs → (∀ r ∈ xs, r.2 ≤ a) → cntL xs = cnt (mem xs) a
  | [], _, _ => by
    have : ∀ n, cnt (mem []) n = 0 := by
      intro n
      induction n with
      | zero => rfl
      | succ n ih => simp [cnt, ih, mem]
    rw [this]
    rfl
  | r :: xs, hn, ha => by
    obtain ⟨⟨h1, h2⟩, h3⟩ := hn.head
    have e : cnt (mem (r :: xs)) a = cnt (fun k => hasP k r || mem xs k) a := cnt_eq a (fun k _ => by simp [mem])
    rw [e, cnt_or a (fun k _ hk => by
      simp [hasP] at hk
      exact mem_lo hn.tail h3 (by omega)), ← cntL_cnt a xs hn.tail (fun x hx => ha x (List.mem_cons_of_mem _ hx)), cnt_rg r h1]
    have := ha r (List.mem_cons_self ..)
    have e2 : cntL (r :: xs) = r.2 - r.1 + cntL xs := by simp [cntL]
    rw [e2]
    omega
theorem cnt_all {p : Nat → Bool} {a : Nat} : ∀ d, (∀ k, a ≤ k → k < a + d → p k = true) → cnt p (a + d) = cnt p a + d
  | 0, _ => rfl
  | d + 1, h => by
    rw [← Nat.add_assoc, cnt, cnt_all d (fun k h1 h2 => h k h1 (by omega)), h (a + d) (by omega) (by omega)]
    simp
    omega
theorem cnt_none {p : Nat → Bool} {a : Nat} : ∀ d, (∀ k, a ≤ k → k < a + d → p k = false) → cnt p (a + d) = cnt p a
  | 0, _ => rfl
  | d + 1, h => by
    rw [← Nat.add_assoc, cnt, cnt_none d (fun k h1 h2 => h k h1 (by omega)), h (a + d) (by omega) (by omega)]
    simp

/-- What a gap is. -/
theorem gapF_facts (t : Nat) : ∀ (xs : List Rg) (f : Nat), Norm xs → f ≤ (gapF xs f t).1 ∧ (gapF xs f t).2 ≤ t ∧
    (∀ k, f ≤ k → k < (gapF xs f t).1 → mem xs k = true) ∧ (∀ k, (gapF xs f t).1 ≤ k → k < (gapF xs f t).2 → mem xs k = false)
  | [], f, _ => ⟨Nat.le_refl _, Nat.le_refl _, fun k h1 h2 => by simp [gapF] at h2; omega, fun k _ _ => rfl⟩
  | r :: xs, f, hn => by
    obtain ⟨⟨h1, h2⟩, h3⟩ := hn.head
    unfold gapF
    by_cases c1 : r.2 ≤ f
    · rw [if_pos c1]
      obtain ⟨i1, i2, i3, i4⟩ := gapF_facts t xs f hn.tail
      refine ⟨i1, i2, fun k a b => ?_, fun k a b => ?_⟩
      · have := i3 k a b
        simp [mem] at this ⊢
        exact .inr this
      · have := i4 k a b
        unfold mem at *
        rw [List.any_cons, this]
        simp [hasP]
        omega
    · rw [if_neg c1]
      by_cases c2 : f < r.1
      · rw [if_pos c2]
        refine ⟨Nat.le_refl _, Nat.min_le_left _ _, fun k a b => by simp only at b; omega, fun k a b => ?_⟩
        simp only at a b
        have := mem_lo hn.tail (a := r.2) h3 (k := k) (by omega)
        unfold mem at *
        rw [List.any_cons, this]
        simp [hasP]
        omega
      · rw [if_neg c2]
        obtain ⟨i1, i2, i3, i4⟩ := gapF_facts t xs r.2 hn.tail
        refine ⟨by omega, i2, fun k a b => ?_, fun k a b => ?_⟩
        · by_cases hk : k < r.2
          · simp [mem, hasP]
            left
            omega
          · have := i3 k (by omega) b
            simp [mem] at this ⊢
            exact .inr this
        · have := i4 k a b
          unfold mem at *
          rw [List.any_cons, this]
          simp [hasP]
          omega
theorem gap_step {xs : List Rg} {f t : Nat} {r : Rg} (hn : Norm xs) (h : gapL xs f t = (r, true)) :
    f ≤ r.1 ∧ r.1 < r.2 ∧ r.2 ≤ t ∧ (∀ k, r.1 ≤ k → k < r.2 → xs.any (hasP k) = false) ∧ cnt (mem xs) r.2 = cnt (mem xs) f + (r.1 - f) := by
  obtain ⟨i1, i2, i3, i4⟩ := gapF_facts t xs f hn
  unfold gapL at h
  split at h
  · simp at h
  · rename_i c
    have h' : gapF xs f t = r := congrArg Prod.fst h
    rw [h'] at i1 i2 i3 i4 c
    refine ⟨i1, by omega, i2, i4, ?_⟩
    have e1 : r.2 = r.1 + (r.2 - r.1) := by omega
    have e2 : r.1 = f + (r.1 - f) := by omega
    have e3 := cnt_none (p := mem xs) (a := r.1) (r.2 - r.1) (fun k a b => i4 k a (by omega))
    have e4 := cnt_all (p := mem xs) (a := f) (r.1 - f) (fun k a b => i3 k a (by omega))
    rw [← e1] at e3
    rw [← e2] at e4
    omega
theorem gap_end {xs : List Rg} {f t : Nat} {g : Rg} (hn : Norm xs) (hf : f ≤ t) (ht : ∀ r ∈ xs, r.2 ≤ t) (h : gapL xs f t = (g, false)) : cntL xs = cnt (mem xs) f + (t - f) := by
  obtain ⟨i1, i2, i3, i4⟩ := gapF_facts t xs f hn
  obtain ⟨_, _, j3⟩ := gapF_is t xs f hn
  unfold gapL at h
  split at h
  · rename_i c
    have hle := j3.1 c
    rw [cntL_cnt t xs hn ht, show t = f + (t - f) from by omega, cnt_all _ (fun k a b => i3 k a (by omega))]
    omega
  · simp at h
end Go.Proofs.Ytncfbaabhceeoaa
