/- DERIVED. Walk of outbuf's Acked. -/
import Derived.Test.YtnneoeimgbemfaaGreatQH7
import Derived.Test.YtnneoeimgbemfaaGreatQH8
import Derived.Test.YtnneoeimgbemfaaGreatQH15
import Derived.Test.YtnneoeimgbemfaaGreatQH23
set_option linter.all false
namespace Go.Proofs.YtnneoeimgbemfaaGreat
open Go.RowKit

/-- Acknowledged: what becomes of it. -/
def OS.ackM (s : OS) (zs yz : List Rg) (f : Bool) : OS := { s with xs := zs, ys := yz, ea := s.ea || (f && s.es) }
def OS.ackG (s : OS) (zs yz : List Rg) (at_ : Nat) (f : Bool) : OS := { s with xs := zs, ys := yz, ea := s.ea || (f && s.es), base := at_ }
set_option maxRecDepth 100000 in
set_option maxHeartbeats 2000000 in
theorem oackG_any (b : Nat) (s : OS) (fp : Nat → Prop) (off : Nat) (n : Int) (zs : List Rg) (at_ : Nat) (w : World) (h : OAt w b s fp) (ho : off < 18446744073709551616) (hn : -9223372036854775808 ≤ n) (hn2 : n ≤ 9223372036854775807) (f : Bool) (yz : List Rg) (hyz : cutRaw (s.kn off n).1 (s.kn off n).2 s.ys = yz) (hly : yz.length ≤ 100000)
    (hzs : s.ackX (s.kn off n) = zs) (hnz : Norm zs) (hlz : zs.length ≤ 100000) (hat : atOf zs s.B.length = at_) (hat1 : s.base ≤ at_) (hat2 : at_ ≤ s.B.length) :
    Calls Tryz.prog 51 #[.pointer (some ⟨b, 0, none⟩), .int .u64 off, .int .i64 n, .bool f] w fun e w' => e = .returned (.tuple #[]) ∧ OM w w' fp b (s.ackG zs yz at_ f) := by
  obtain ⟨i0, hi0, hz0, hz1, hz2'⟩ := info_parts infoB
  have hlen := h.ok.len
  have hsl := h.ok.sent
  obtain ⟨from_, to_, hkn⟩ : ∃ f t, s.kn off n = (f, t) := ⟨_, _, rfl⟩
  have hto : to_ ≤ s.B.length ∧ from_ ≤ s.B.length := by
    unfold OS.kn at hkn
    simp only [Prod.mk.injEq] at hkn
    omega
  have H := Lib.hid h
  have HYZ := Lib.hid (show cutRaw from_ to_ s.ys = yz by rw [← hyz, hkn])
  have HNY := Lib.hid (show Norm yz by rw [← hyz]; exact cut_norm _ _ _ h.ok.ny)
  have HLY := Lib.hid hly
  have HKN := Lib.hid hkn
  have HZS := Lib.hid (show (if from_ < to_ ∧ to_ ≤ 4611686018427387904 then addL many s.xs from_ to_ else s.xs) = zs by
    rw [← hzs, hkn]
    unfold OS.ackX
    by_cases q : from_ < to_
    · rw [if_pos ⟨q, by omega⟩, if_pos q]
    · rw [if_neg (fun q2 => q q2.1), if_neg q])
  have HNZ := Lib.hid (And.intro hnz hlz)
  have HAT := Lib.hid (And.intro hat (And.intro hat1 hat2))
  clear h hyz hly hkn hzs hnz hlz hat hat1 hat2
  obtain ⟨hto1, hto2⟩ := hto
  go_enter Tryz.func51, Tryz.ntmps51
  go_wp2_with fail
  refine (oknown_q b s fp off n _ (by exact H.out) ho hn hn2).mono ?_
  rw [HKN.out]
  rintro e w1 ⟨rfl, q, rfl⟩
  have H1 := Lib.hid ((OM.refl H.out).drewN q)
  generalize w.drewN q = w1 at *
  obtain ⟨fp1, hoa, hw1⟩ := H1.out
  obtain ⟨vb, ob, c, oc, d, od, hO, hfp⟩ := hoa
  rw [hfp] at hw1
  have HO := Lib.hid hO
  have HW := Lib.hid hw1
  have c4 : w1.cell? ⟨b, 4, none⟩ = some (.pointer (some ⟨c, 0, none⟩)) := (cell_at hO.blk 4).trans rfl
  clear hO hfp hw1 H1
  go_wp2_with fail
  refine (add_any c many oc s.xs from_ to_ _ (by exact HO.out.sx) (by decide) (by decide) (by have := HO.out.ok.lx; omega)).mono ?_
  rw [HZS.out]
  rintro e w2 ⟨rfl, ht⟩
  have H2 := Lib.hid (om_turnC HO.out HW.out ht HNZ.out.1 HNZ.out.2)
  clear ht HO HW c4
  obtain ⟨fp2, hoa, hw2⟩ := H2.out
  obtain ⟨vb, ob, c, oc, d, od, hO, hfp⟩ := hoa
  rw [hfp] at hw2
  have HO := Lib.hid hO
  have HW := Lib.hid hw2
  have c5 : w2.cell? ⟨b, 5, none⟩ = some (.pointer (some ⟨d, 0, none⟩)) := (cell_at hO.blk 5).trans rfl
  clear hO hfp hw2 H2
  go_wp2_with fail
  refine (cut_any d many od s.ys from_ to_ _ (by exact HO.out.sy) (by decide) (by decide) (by omega) (by omega) HO.out.ok.ny (by have h9 : s.ys.length ≤ 100000 := HO.out.ok.ly; omega)).mono ?_
  rw [HYZ.out]
  rintro e w3 ⟨rfl, ht⟩
  rw [trim_all (by have := HLY.out; unfold many; omega)] at ht
  have hm3 := om_turnD HO.out HW.out ht HNY.out HLY.out
  have H3 := Lib.hid hm3
  clear ht HO HW c5 hm3
  go_upto_region 3 with fail
  go_cut [40] (fun v wx => v = .bool (f && s.es) ∧ wx = w3)
  case first =>
    obtain ⟨fp3, hoa, hw3⟩ := H3.out
    obtain ⟨vb, ob, c, oc, d, od, hO, hfp⟩ := hoa
    have e7 : w3.cell? ⟨b, 7, none⟩ = some (.bool s.es) := (cell_at hO.blk 7).trans rfl
    clear hO hfp hw3 H3
    cases f
    · go_wp2_with fail
      go_meet
      case rel => exact ⟨rfl, rfl⟩
    · go_wp2_with fail
      go_meet
      case rel => exact ⟨rfl, rfl⟩
  case rest =>
  obtain ⟨rfl, rfl⟩ := hcut
  generalize wc = w3 at *
  obtain ⟨q, hq⟩ : ∃ q, (f && s.es) = q := ⟨_, rfl⟩
  have HQ := Lib.hid hq
  rw [hq]
  clear hq
  go_upto_if 40 with fail
  go_cut [] (fun wx => OM w wx fp b (s.ackM zs yz f))
  case first =>
    obtain ⟨fp3, hoa, hw3⟩ := H3.out
    obtain ⟨vb, ob, c, oc, d, od, hO, hfp⟩ := hoa
    rw [hfp] at hw3
    have e8 : w3.cell? ⟨b, 8, none⟩ = some (.bool s.ea) := (cell_at hO.blk 8).trans rfl
    have q8 := free_at hO.blk 8
    have HM0 := Lib.hid (fun (hq : (s.ea || (f && s.es)) = s.ea) => show OM w w3 fp b (s.ackM zs yz f) from by
      unfold OS.ackM
      rw [hq]
      exact H3.out)
    have HM1 := Lib.hid (fun (hq : (s.ea || (f && s.es)) = true) => show OM w (w3.setCell ⟨b, 8, none⟩ (.bool true)) fp b (s.ackM zs yz f) from by
      unfold OS.ackM
      rw [hq]
      exact om_set (s' := { s with xs := zs, ys := yz, ea := true }) hO hw3 (Upd.refl _ _) ((Upd.refl (fun j => j = b) w3).setCell ⟨b, 8, none⟩ (.inl rfl) _) (set_at hO.blk 8 _) hO.row (.inl rfl) rfl rfl ⟨hO.ok.len, hO.ok.base, hO.ok.sent, hO.ok.nx, hO.ok.ny, hO.ok.lx, hO.ok.ly, hO.ok.bys⟩)
    clear hO hfp hw3 H3
    cases q
    · have HE := Lib.hid (show (s.ea || (f && s.es)) = s.ea by rw [HQ.out]; simp)
      clear HQ
      go_wp2_with fail
      go_meet
      case rel => exact HM0.out HE.out
    · have HE := Lib.hid (show (s.ea || (f && s.es)) = true by rw [HQ.out]; simp)
      clear HQ
      go_wp2_with fail
      go_meet
      case rel => exact HM1.out HE.out
  case rest =>
  have H3 := Lib.hid (show OM w wc fp b (s.ackM zs yz f) from hcut)
  clear hcut
  generalize wc = w3 at *
  obtain ⟨fp3, hoa, hw3⟩ := H3.out
  obtain ⟨vb, ob, c, oc, d, od, hO, hfp⟩ := hoa
  rw [hfp] at hw3
  have HO := Lib.hid hO
  have HW := Lib.hid hw3
  clear hO hfp hw3 H3
  obtain ⟨len, hln⟩ : ∃ len, s.B.length = len := ⟨_, rfl⟩
  have HLE := Lib.hid hln
  rw [hln] at hlen hsl hto1 hto2 HAT
  obtain ⟨lo, hi, ok, hga⟩ : ∃ lo hi ok, gapL zs 0 len = ((lo, hi), ok) := ⟨_, _, _, rfl⟩
  have HGA := Lib.hid hga
  have e2 : w3.cell? ⟨b, 2, none⟩ = some (.int .u64 len) := by rw [cell_at HO.out.blk, ← hln]; rfl
  have HSX := Lib.hid (show SetAt w3.drew c many oc zs from HO.out.sx.below (Below.refl _ _).drew)
  have HSof := Lib.hid (show ∀ W, Below w3.drew.heap.size w3.drew W → W.cell? ⟨b, 4, none⟩ = some (.pointer (some ⟨c, 0, none⟩)) ∧ W.cell? ⟨b, 2, none⟩ = some (.int .u64 len) from fun W h => by
    have hk := below_keeps h (show w3.drew.heap[b]? = _ from HO.out.blk) (heap_lt HO.out.blk)
    refine ⟨(cell_at hk 4).trans rfl, ?_⟩
    rw [cell_at hk, ← hln]
    rfl)
  have HNX := Lib.hid HNZ.out.1
  clear hln hga
  go_upto_region 6 with fail
  go_cut [11, 12] (fun v a wx => ∃ z, v = .pointer (some ⟨z, 0, none⟩) ∧ a = .bool ok ∧ wx.cell? ⟨z, 0, none⟩ = some (.int .u64 lo) ∧ Below w3.drew.heap.size w3.drew wx)
  case first =>
    go_wp2_with fail
    have hb : Below w3.drew.heap.size w3.drew w3.drew := Below.refl _ _
    refine wp_region_till (S := fun w' => w'.cell? ⟨b, 4, none⟩ = some (.pointer (some ⟨c, 0, none⟩)) ∧ w'.cell? ⟨b, 2, none⟩ = some (.int .u64 len)) [] (by kernel_rfl) (by exact HSof.out _ hb) (fun hHeld => ?_)
    refine wpTill_take0 (i := 0) (oi := ⟨some 49, _, _, _, _, _⟩) (v := ?_) rfl (by kernel_rfl) (fun _ _ _ h => h) (Or.inl ⟨by rfl, ?_⟩) (fun _ => hHeld) ?_
    rotate_left
    · intro w hSw
      (try dsimp only at hSw)
      go_simp
      try with_reducible rfl
    try simp only [Act.put, List.setIfInBounds_toArray, List.set_cons_zero, List.set_cons_succ]
    refine wpTill_take0 (i := 1) (oi := ⟨some 50, _, _, _, _, _⟩) (v := ?_) rfl (by kernel_rfl) (fun _ _ _ h => h) (Or.inl ⟨by rfl, ?_⟩) (fun _ => hHeld) ?_
    rotate_left
    · intro w hSw
      (try dsimp only at hSw)
      go_simp
      try with_reducible rfl
    try simp only [Act.put, List.setIfInBounds_toArray, List.set_cons_zero, List.set_cons_succ]
    refine wpTill_take0 (i := 2) (oi := ⟨some 51, _, _, _, _, _⟩) (v := ?_) rfl (by kernel_rfl) (fun _ _ _ h => h) (Or.inl ⟨by rfl, ?_⟩) (fun _ => hHeld) ?_
    rotate_left
    · intro w hSw
      (try dsimp only at hSw)
      go_simp
      try with_reducible rfl
    try simp only [Act.put, List.setIfInBounds_toArray, List.set_cons_zero, List.set_cons_succ]
    refine wpTill_take (i := 3) (oi := ⟨some 52, _, _, _, _, _⟩) (v := ?_) rfl (by kernel_rfl) (fun _ _ _ h => h) (Or.inl ⟨by rfl, ?_⟩) (by exact hHeld) ?_
    rotate_left
    · intro w hSw
      (try dsimp only at hSw)
      go_simp
      try with_reducible rfl
    try simp only [Act.put, List.setIfInBounds_toArray, List.set_cons_zero, List.set_cons_succ]
    refine wpTill_take0 (i := 4) (oi := ⟨some 53, _, _, _, _, _⟩) (v := ?_) rfl (by kernel_rfl) (fun _ _ _ h => h) (Or.inl ⟨by rfl, ?_⟩) (fun _ => hHeld) ?_
    rotate_left
    · intro w hSw
      (try dsimp only at hSw)
      go_simp
      try with_reducible rfl
    try simp only [Act.put, List.setIfInBounds_toArray, List.set_cons_zero, List.set_cons_succ]
    refine wpTill_take0 (i := 5) (oi := ⟨some 54, _, _, _, _, _⟩) (v := ?_) rfl (by kernel_rfl) (fun _ _ _ h => h) (Or.inl ⟨by rfl, ?_⟩) (fun _ => hHeld) ?_
    rotate_left
    · intro w hSw
      (try dsimp only at hSw)
      go_simp
      try with_reducible rfl
    try simp only [Act.put, List.setIfInBounds_toArray, List.set_cons_zero, List.set_cons_succ]
    refine wpTill_take0 (i := 6) (oi := ⟨some 55, _, _, _, _, _⟩) (v := ?_) rfl (by kernel_rfl) (fun _ _ _ h => h) (Or.inl ⟨by rfl, ?_⟩) (fun _ => hHeld) ?_
    rotate_left
    · intro w hSw
      (try dsimp only at hSw)
      go_simp
      try with_reducible rfl
    try simp only [Act.put, List.setIfInBounds_toArray, List.set_cons_zero, List.set_cons_succ]
    refine wpTill_take (i := 7) (oi := ⟨some 56, _, _, _, _, _⟩) (v := ?_) rfl (by kernel_rfl) (fun _ _ _ h => h) (Or.inl ⟨by rfl, ?_⟩) (by exact hHeld) ?_
    rotate_left
    · intro w hSw
      (try dsimp only at hSw)
      go_simp
      try with_reducible rfl
    try simp only [Act.put, List.setIfInBounds_toArray, List.set_cons_zero, List.set_cons_succ]
    refine wpTill_ready (rs := [8, 12]) (by kernel_rfl) (by simp) ?_
    refine AllTill.cons (o := ⟨some 57, _, _, _, _, _⟩) rfl (fun K hK => ?_) ?_
    · go_simp
      go_at_call 72
      refine (gap_any c many oc zs 0 len _ (by exact HSX.out.below hb) (by omega) (by omega) HNX.out).mono ?_
      rw [HGA.out]
      rintro e W8 ⟨rfl, hx8⟩
      have hb := below_call hb hb.size hx8
      go_wp2_with fail
      refine hK.out _ _ (by exact HSof.out _ hb) (fun hHeld => ?_)
      clear hK K
      try simp only [Act.put, List.setIfInBounds_toArray, List.set_cons_zero, List.set_cons_succ]
      refine wpTill_take0 (i := 9) (oi := ⟨some 48, _, _, _, _, _⟩) (v := ?_) rfl (by kernel_rfl) (fun _ _ _ h => h) (Or.inl ⟨by rfl, ?_⟩) (fun _ => hHeld) ?_
      rotate_left
      · intro w hSw
        (try dsimp only at hSw)
        go_simp
        try with_reducible rfl
      try simp only [Act.put, List.setIfInBounds_toArray, List.set_cons_zero, List.set_cons_succ]
      refine wpTill_take0 (i := 10) (oi := ⟨some 58, _, _, _, _, _⟩) (v := ?_) rfl (by kernel_rfl) (fun _ _ _ h => h) (Or.inl ⟨by rfl, ?_⟩) (fun _ => hHeld) ?_
      rotate_left
      · intro w hSw
        (try dsimp only at hSw)
        go_simp
        try with_reducible rfl
      try simp only [Act.put, List.setIfInBounds_toArray, List.set_cons_zero, List.set_cons_succ]
      refine wpTill_take0 (i := 11) (oi := ⟨some 59, _, _, _, _, _⟩) (v := ?_) rfl (by kernel_rfl) (fun _ _ _ h => h) (Or.inl ⟨by rfl, ?_⟩) (fun _ => hHeld) ?_
      rotate_left
      · intro w hSw
        (try dsimp only at hSw)
        go_simp
        try with_reducible rfl
      try simp only [Act.put, List.setIfInBounds_toArray, List.set_cons_zero, List.set_cons_succ]
      refine wpTill_ready (rs := [12]) (by kernel_rfl) (by simp) ?_
      refine AllTill.cons (o := ⟨some 11, _, _, _, _, _⟩) rfl (fun K hK => ?_) AllTill.nil
      go_simp
      have hb8 := hb
      have hb := hb.alloc hb.size (.cells #[.int .u64 0, .int .u64 0] 123)
      refine hK.out _ _ (by exact HSof.out _ hb) (fun hHeld => ?_)
      clear hK K
      try simp only [Act.put, List.setIfInBounds_toArray, List.set_cons_zero, List.set_cons_succ]
      refine wpTill_ready (rs := [13]) (by kernel_rfl) (by simp) ?_
      refine AllTill.cons (o := ⟨none, _, _, _, _, _⟩) rfl (fun K hK => ?_) AllTill.nil
      go_simp
      have hb := hb8.alloc hb8.size (.cells #[.int .u64 lo, .int .u64 hi] 123)
      have hzz := alloc_at W8 (.cells #[.int .u64 lo, .int .u64 hi] 123)
      refine hK.out _ _ (by exact HSof.out _ hb) (fun hHeld => ?_)
      clear hK K
      try simp only [Act.put, List.setIfInBounds_toArray, List.set_cons_zero, List.set_cons_succ]
      refine wpTill_ready (rs := [14]) (by kernel_rfl) (by simp) ?_
      refine AllTill.cons (o := ⟨some 12, _, _, _, _, _⟩) rfl (fun K hK => ?_) AllTill.nil
      go_simp
      refine hK.out _ _ (by exact HSof.out _ hb) (fun hHeld => ?_)
      clear hK K
      try simp only [Act.put, List.setIfInBounds_toArray, List.set_cons_zero, List.set_cons_succ]
      refine wpTill_done (by kernel_rfl) ?_ _
      go_wp2_with fail
      go_meet
      case rel => exact ⟨_, rfl, rfl, (cell_at hzz 0).trans rfl, hb⟩
    refine AllTill.cons (o := ⟨some 11, _, _, _, _, _⟩) rfl (fun K hK => ?_) ?_
    · go_simp
      have hzz : (w3.drew.alloc (.cells #[.int .u64 0, .int .u64 0] 123)).heap[w3.heap.size]? = some (.cells #[.int .u64 0, .int .u64 0] 123 (0, 0)) := alloc_at w3.drew _
      have hz12 : w3.drew.heap.size ≤ w3.heap.size := Nat.le_refl _
      have hb := hb.alloc hb.size (.cells #[.int .u64 0, .int .u64 0] 123)
      refine hK.out _ _ (by exact HSof.out _ hb) (fun hHeld => ?_)
      clear hK K
      try simp only [Act.put, List.setIfInBounds_toArray, List.set_cons_zero, List.set_cons_succ]
      refine wpTill_ready (rs := [8]) (by kernel_rfl) (by simp) ?_
      refine AllTill.cons (o := ⟨some 57, _, _, _, _, _⟩) rfl (fun K hK => ?_) AllTill.nil
      go_simp
      go_at_call 72
      refine (gap_any c many oc zs 0 len _ (by exact HSX.out.below hb) (by omega) (by omega) HNX.out).mono ?_
      rw [HGA.out]
      rintro e W8 ⟨rfl, hx8⟩
      have hb := below_call hb hb.size hx8
      have hzz := below_keeps hx8 hzz (heap_lt hzz)
      go_wp2_with fail
      refine hK.out _ _ (by exact HSof.out _ hb) (fun hHeld => ?_)
      clear hK K
      try simp only [Act.put, List.setIfInBounds_toArray, List.set_cons_zero, List.set_cons_succ]
      refine wpTill_take0 (i := 9) (oi := ⟨some 48, _, _, _, _, _⟩) (v := ?_) rfl (by kernel_rfl) (fun _ _ _ h => h) (Or.inl ⟨by rfl, ?_⟩) (fun _ => hHeld) ?_
      rotate_left
      · intro w hSw
        (try dsimp only at hSw)
        go_simp
        try with_reducible rfl
      try simp only [Act.put, List.setIfInBounds_toArray, List.set_cons_zero, List.set_cons_succ]
      refine wpTill_take0 (i := 10) (oi := ⟨some 58, _, _, _, _, _⟩) (v := ?_) rfl (by kernel_rfl) (fun _ _ _ h => h) (Or.inl ⟨by rfl, ?_⟩) (fun _ => hHeld) ?_
      rotate_left
      · intro w hSw
        (try dsimp only at hSw)
        go_simp
        try with_reducible rfl
      try simp only [Act.put, List.setIfInBounds_toArray, List.set_cons_zero, List.set_cons_succ]
      refine wpTill_take0 (i := 11) (oi := ⟨some 59, _, _, _, _, _⟩) (v := ?_) rfl (by kernel_rfl) (fun _ _ _ h => h) (Or.inl ⟨by rfl, ?_⟩) (fun _ => hHeld) ?_
      rotate_left
      · intro w hSw
        (try dsimp only at hSw)
        go_simp
        try with_reducible rfl
      try simp only [Act.put, List.setIfInBounds_toArray, List.set_cons_zero, List.set_cons_succ]
      refine wpTill_ready (rs := [13]) (by kernel_rfl) (by simp) ?_
      refine AllTill.cons (o := ⟨none, _, _, _, _, _⟩) rfl (fun K hK => ?_) AllTill.nil
      have z0 := cell_at hzz 0
      have z1 := cell_at hzz 1
      have y0 := free_at hzz 0
      have y1 := free_at hzz 1
      go_simp
      have hb := (hb.setCell (p := ⟨w3.heap.size, 0, none⟩) hz12 (.int .u64 lo)).setCell (p := ⟨w3.heap.size, 1, none⟩) hz12 (.int .u64 hi)
      have hzz := set_at (set_at hzz 0 (.int .u64 lo)) 1 (.int .u64 hi)
      refine hK.out _ _ (by exact HSof.out _ hb) (fun hHeld => ?_)
      clear hK K
      try simp only [Act.put, List.setIfInBounds_toArray, List.set_cons_zero, List.set_cons_succ]
      refine wpTill_ready (rs := [14]) (by kernel_rfl) (by simp) ?_
      refine AllTill.cons (o := ⟨some 12, _, _, _, _, _⟩) rfl (fun K hK => ?_) AllTill.nil
      go_simp
      refine hK.out _ _ (by exact HSof.out _ hb) (fun hHeld => ?_)
      clear hK K
      try simp only [Act.put, List.setIfInBounds_toArray, List.set_cons_zero, List.set_cons_succ]
      refine wpTill_done (by kernel_rfl) ?_ _
      go_wp2_with fail
      go_meet
      case rel => exact ⟨_, rfl, rfl, (cell_at hzz 0).trans rfl, hb⟩
    exact AllTill.nil
  case rest =>
    obtain ⟨z, rfl, rfl, hz0, hb4⟩ := hcut
    generalize wc = w4 at *
    have hb34 : Below w3.heap.size w3 w4 := below_call (Below.refl _ _).drew (Nat.le_refl _) hb4
    have HO4 := Lib.hid (HO.out.below hb34)
    have HW4 := Lib.hid (HW.out.later hb34)
    have hatv : (if ok then lo else len) = at_ := by
      have := HAT.out.1
      unfold atOf at this
      rw [HGA.out] at this
      exact this
    obtain ⟨_, hat1, hat2⟩ := HAT.out
    clear hb4 hb34 HSof HSX HO HW e2
    go_upto_if 60 with fail
    go_cut [10] (fun v wx => v = .int .u64 at_ ∧ wx = w4)
    case first =>
      cases ok
      · simp at hatv
        subst hatv
        go_wp2_with fail
        go_meet
        case rel => exact ⟨rfl, rfl⟩
      · simp at hatv
        subst hatv
        go_wp2_with fail
        go_meet
        case rel => exact ⟨rfl, rfl⟩
    case rest =>
      obtain ⟨rfl, rfl⟩ := hcut
      clear hatv hz0
      generalize wc = w4 at *
      obtain ⟨oB, cB, e0, hcB, hcB2⟩ := HO4.out.row.shape
      obtain ⟨base, hbase⟩ : ∃ base, s.base = base := ⟨_, rfl⟩
      have HBA := Lib.hid hbase
      obtain ⟨n0, hn0⟩ : ∃ n0, len - base = n0 := ⟨_, rfl⟩
      have hdl : (s.B.drop s.base).length = n0 := by rw [List.length_drop, HLE.out, hbase]; exact hn0
      rw [show (((s.ackM zs yz f).B.drop (s.ackM zs yz f).base)).length = n0 from hdl] at e0 hcB
      subst e0
      rw [hbase] at hat1
      obtain ⟨l, hl, hl2⟩ : ∃ l : Nat, (at_ : Int) - (base : Int) = (l : Int) ∧ at_ - base = l := ⟨at_ - base, by omega, rfl⟩
      have hln0 : l ≤ n0 := by omega
      have hwl : IntKind.u64.wrap (l : Int) = l := IntWalk.u64_in _ (by omega)
      have HBK4 := Lib.hid (show w4.drew.heap[b]? = some (.cells #[.slice oB n0 cB, .int .u64 base, .int .u64 s.B.length, .int .u64 s.sent, .pointer (some ⟨c, 0, none⟩), .pointer (some ⟨d, 0, none⟩), .bool s.fi, .bool s.es, .bool (s.ea || (f && s.es)), .bool s.el] 109 (0, 0)) from by
        rw [← hbase]
        exact HO4.out.blk)
      have HRT := Lib.hid (show ∃ og', SlO encB 1 5 w4.drew (tailV oB 1 n0 cB l) og' (s.B.drop at_) ∧ (og' = ob ∨ og' = none) from by
        obtain ⟨og', h1, h2⟩ := SlO.tail (HO4.out.row.below (Below.refl _ _).drew) hln0
        refine ⟨og', ?_, h2⟩
        have e : (s.B.drop s.base).drop l = s.B.drop at_ := by rw [List.drop_drop, hbase, show base + l = at_ by omega]
        rw [← e]
        exact h1)
      have HFIN := Lib.hid (show OM w ((w4.drew.setCell ⟨b, 0, none⟩ (tailV oB 1 n0 cB l)).setCell ⟨b, 1, none⟩ (.int .u64 (at_ : Nat))) fp b (s.ackG zs yz at_ f) from by
        obtain ⟨og', h1, h2⟩ := HRT.out
        have ho := HO4.out.ok
        refine om_set (s' := s.ackG zs yz at_ f) (HO4.out.below (Below.refl _ _).drew) (HW4.out.later (Below.refl _ _).drew) (Upd.refl _ _) (((Upd.refl (fun j => j = b) w4.drew).setCell ⟨b, 0, none⟩ (.inl rfl) _).setCell ⟨b, 1, none⟩ (.inl rfl) _) (set_at (set_at HBK4.out 0 (tailV oB 1 n0 cB l)) 1 (.int .u64 (at_ : Nat))) h1 (h2.imp id .inl) rfl rfl ⟨ho.len, by show at_ ≤ s.B.length; rw [HLE.out]; exact hat2, ho.sent, ho.nx, ho.ny, ho.lx, ho.ly, ho.bys⟩)
      obtain ⟨oT, hT⟩ : ∃ oT, tailV oB 1 n0 cB l = .slice oT (n0 - l) (cB - l) := ⟨_, rfl⟩
      rw [hT] at HFIN
      have HTT := Lib.hid hT
      have e1 : w4.cell? ⟨b, 1, none⟩ = some (.int .u64 base) := (cell_at (show w4.heap[b]? = _ from HBK4.out) 1).trans rfl
      have q1 : w4.frozen? ⟨b, 1, none⟩ = false := free_at (show w4.heap[b]? = _ from HBK4.out) 1
      clear hdl hn0 hl2 hat1 hat2 hbase hT HRT
      go_wp2_with fail
      refine wp_region_till (S := fun w' => w'.cell? ⟨b, 0, none⟩ = some (.slice oB n0 cB) ∧ w'.cell? ⟨b, 1, none⟩ = some (.int .u64 base)) [14] (by kernel_rfl) (by exact ⟨(cell_at HBK4.out 0).trans rfl, (cell_at HBK4.out 1).trans rfl⟩) (fun hHeld => ?_)
      refine wpTill_take0 (i := 0) (oi := ⟨some 63, _, _, _, _, _⟩) (v := ?_) rfl (by kernel_rfl) (fun _ _ _ h => h) (Or.inl ⟨by rfl, ?_⟩) (fun _ => hHeld) ?_
      rotate_left
      · intro w hSw
        (try dsimp only at hSw)
        go_simp
        try with_reducible rfl
      try simp only [Act.put, List.setIfInBounds_toArray, List.set_cons_zero, List.set_cons_succ]
      refine wpTill_take0 (i := 1) (oi := ⟨some 64, _, _, _, _, _⟩) (v := ?_) rfl (by kernel_rfl) (fun _ _ _ h => h) (Or.inl ⟨by rfl, ?_⟩) (fun _ => hHeld) ?_
      rotate_left
      · intro w hSw
        (try dsimp only at hSw)
        go_simp
        try with_reducible rfl
      try simp only [Act.put, List.setIfInBounds_toArray, List.set_cons_zero, List.set_cons_succ]
      refine wpTill_take0 (i := 2) (oi := ⟨some 65, _, _, _, _, _⟩) (v := ?_) rfl (by kernel_rfl) (fun _ _ _ h => h) (Or.inl ⟨by rfl, ?_⟩) (fun _ => hHeld) ?_
      rotate_left
      · intro w hSw
        (try dsimp only at hSw)
        go_simp
        try with_reducible rfl
      try simp only [Act.put, List.setIfInBounds_toArray, List.set_cons_zero, List.set_cons_succ]
      refine wpTill_take0 (i := 3) (oi := ⟨some 66, _, _, _, _, _⟩) (v := ?_) rfl (by kernel_rfl) (fun _ _ _ h => h) (Or.inl ⟨by rfl, ?_⟩) (fun _ => hHeld) ?_
      rotate_left
      · intro w hSw
        (try dsimp only at hSw)
        go_simp
        try with_reducible rfl
      try simp only [Act.put, List.setIfInBounds_toArray, List.set_cons_zero, List.set_cons_succ]
      refine wpTill_take (i := 4) (oi := ⟨some 67, _, _, _, _, _⟩) (v := ?_) rfl (by kernel_rfl) (fun _ _ _ h => h) (Or.inl ⟨by rfl, ?_⟩) (by exact hHeld) ?_
      rotate_left
      · intro w hSw
        (try dsimp only at hSw)
        go_simp
        try with_reducible rfl
      try simp only [Act.put, List.setIfInBounds_toArray, List.set_cons_zero, List.set_cons_succ]
      refine wpTill_take0 (i := 5) (oi := ⟨some 68, _, _, _, _, _⟩) (v := ?_) rfl (by kernel_rfl) (fun _ _ _ h => h) (Or.inl ⟨by rfl, ?_⟩) (fun _ => hHeld) ?_
      rotate_left
      · intro w hSw
        (try dsimp only at hSw)
        go_simp
        try with_reducible rfl
      try simp only [Act.put, List.setIfInBounds_toArray, List.set_cons_zero, List.set_cons_succ]
      refine wpTill_take0 (i := 6) (oi := ⟨some 69, _, _, _, _, _⟩) (v := ?_) rfl (by kernel_rfl) (fun _ _ _ h => h) (Or.inl ⟨by rfl, ?_⟩) (fun _ => hHeld) ?_
      rotate_left
      · intro w hSw
        (try dsimp only at hSw)
        go_simp
        try with_reducible rfl
      try simp only [Act.put, List.setIfInBounds_toArray, List.set_cons_zero, List.set_cons_succ]
      refine wpTill_take0 (i := 7) (oi := ⟨some 70, _, _, _, _, _⟩) (v := ?_) rfl (by kernel_rfl) (fun _ _ _ h => h) (Or.inl ⟨by rfl, ?_⟩) (fun _ => hHeld) ?_
      rotate_left
      · intro w hSw
        (try dsimp only at hSw)
        go_simp
        try with_reducible rfl
      try simp only [Act.put, List.setIfInBounds_toArray, List.set_cons_zero, List.set_cons_succ]
      refine wpTill_take0 (i := 8) (oi := ⟨some 71, _, _, _, _, _⟩) (v := ?_) rfl (by kernel_rfl) (fun _ _ _ h => h) (Or.inl ⟨by rfl, ?_⟩) (fun _ => hHeld) ?_
      rotate_left
      · intro w hSw
        (try dsimp only at hSw)
        go_simp
        try with_reducible rfl
      try simp only [Act.put, List.setIfInBounds_toArray, List.set_cons_zero, List.set_cons_succ]
      refine wpTill_take (i := 9) (oi := ⟨some 72, _, _, _, _, _⟩) (v := ?_) rfl (by kernel_rfl) (fun _ _ _ h => h) (Or.inl ⟨by rfl, ?_⟩) (by exact hHeld) ?_
      rotate_left
      · intro w hSw
        (try dsimp only at hSw)
        go_simp
        try with_reducible rfl
      try simp only [Act.put, List.setIfInBounds_toArray, List.set_cons_zero, List.set_cons_succ]
      refine wpTill_take0 (i := 10) (oi := ⟨some 73, _, _, _, _, _⟩) (v := ?_) rfl (by kernel_rfl) (fun _ _ _ h => h) (Or.inl ⟨by rfl, ?_⟩) (fun _ => hHeld) ?_
      rotate_left
      · intro w hSw
        (try dsimp only at hSw)
        go_simp
        try with_reducible rfl
      try simp only [Act.put, List.setIfInBounds_toArray, List.set_cons_zero, List.set_cons_succ]
      refine wpTill_take0 (i := 11) (oi := ⟨some 74, _, _, _, _, _⟩) (v := .slice oT (n0 - l) (cB - l)) rfl (by kernel_rfl) (fun _ _ _ h => h) (Or.inl ⟨by rfl, ?_⟩) (fun _ => hHeld) ?_
      · intro w hSw
        refine Eq.trans (exec_tailK Tryz.underlying31 hi0 rfl rfl rfl hln0 hcB) ?_
        rw [hz1, HTT.out]
      try simp only [Act.put, List.setIfInBounds_toArray, List.set_cons_zero, List.set_cons_succ]
      refine wpTill_take0 (i := 12) (oi := ⟨some 75, _, _, _, _, _⟩) (v := ?_) rfl (by kernel_rfl) (fun _ _ _ h => h) (Or.inl ⟨by rfl, ?_⟩) (fun _ => hHeld) ?_
      rotate_left
      · intro w hSw
        (try dsimp only at hSw)
        go_simp
        try with_reducible rfl
      try simp only [Act.put, List.setIfInBounds_toArray, List.set_cons_zero, List.set_cons_succ]
      refine wpTill_take0 (i := 13) (oi := ⟨some 76, _, _, _, _, _⟩) (v := ?_) rfl (by kernel_rfl) (fun _ _ _ h => h) (Or.inl ⟨by rfl, ?_⟩) (fun _ => hHeld) ?_
      rotate_left
      · intro w hSw
        (try dsimp only at hSw)
        go_simp
        try with_reducible rfl
      try simp only [Act.put, List.setIfInBounds_toArray, List.set_cons_zero, List.set_cons_succ]
      refine wpTill_ready (rs := [14]) (by kernel_rfl) (by simp) ?_
      refine AllTill.consD (o := ⟨none, _, _, _, _, _⟩) rfl (by kernel_rfl) (fun K hK => ?_) AllTill.nil
      have e0 := cell_at HBK4.out 0
      have q0 := free_at HBK4.out 0
      go_simp
      refine hK.out _ _ ?_
      clear hK K
      try simp only [Act.put, List.setIfInBounds_toArray, List.set_cons_zero, List.set_cons_succ]
      refine wpTill_done (by kernel_rfl) ?_ _
      go_wp2_with fail
      go_end0
      exact ⟨rfl, HFIN.out⟩
end Go.Proofs.YtnneoeimgbemfaaGreat

/- DERIVED. Split off OutPart2. -/
namespace Go.Proofs.YtnneoeimgbemfaaGreat
open Go.RowKit

set_option maxRecDepth 100000 in
set_option maxHeartbeats 1000000 in
theorem owhole_q (b : Nat) (s : OS) (fp : Nat → Prop) (w : World) (h : OAt w b s fp) :
    Calls Tryz.prog 52 #[.pointer (some ⟨b, 0, none⟩)] w fun e w' => e = .returned (.bool (s.fi && s.ea && decide (s.base = s.B.length))) ∧ ∃ n, w' = w.drewN n := by
  obtain ⟨c1, c2, _, c6, _, c8, _⟩ := h.cells
  generalize s.fi = fi at *
  generalize s.ea = ea at *
  generalize s.base = base at *
  generalize s.B.length = len at *
  clear h
  cases fi
  all_goals cases ea
  all_goals by_cases hb : base = len
  all_goals try subst hb
  all_goals go_enter Tryz.func52, Tryz.ntmps52
  all_goals go_wp2_with fail
  all_goals try go_quiet (fail)
  all_goals try go_wp2_with fail
  all_goals go_ret
  all_goals first
    | exact ⟨by simp [eqN], _, rfl⟩
    | exact ⟨rfl, 0, rfl⟩
    | exact ⟨by simp, 0, rfl⟩
    | exact ⟨by simp; omega, 0, rfl⟩
    | exact ⟨by simp, _, rfl⟩
    | exact ⟨by simp; omega, _, rfl⟩
    | exact ⟨by simp; rw [eqN], _, rfl⟩
end Go.Proofs.YtnneoeimgbemfaaGreat

/- DERIVED. Walk of sender's Acked (printed by mksndack.py). -/
namespace Go.Proofs.YtnneoeimgbemfaaGreat
open Go.RowKit

def OS.whole (s : OS) : Bool := s.fi && s.ea && decide (s.base = s.B.length)
/-- The buffer turned by what is acknowledged. -/
def SS.ackd (s : SS) (o : OS) : SS := { s with os := o, st := if s.st = 3 ∧ o.whole = true then 4 else s.st }
set_option maxRecDepth 100000 in
set_option maxHeartbeats 4000000 in
theorem sack_str (r : Nat) (s : SS) (fp : Nat → Prop) (f : Fr) (off n cd : Nat) (fin : Bool) (od : Option Addr) (zs yz : List Rg) (at_ : Nat) (w : World) (h : SdAt w r s fp) (hf : FrOk f) (hk : f.kd = 8) (hs : f.sid = s.id) (hof : f.off = off) (hv : f.vd = .slice od n cd) (hfi : f.fin = fin) (hn : n ≤ 9223372036854775807)
    (hyz : cutRaw (s.os.kn off n).1 (s.os.kn off n).2 s.os.ys = yz) (hly : yz.length ≤ 100000) (hzs : s.os.ackX (s.os.kn off n) = zs) (hnz : Norm zs) (hlz : zs.length ≤ 100000) (hat : atOf zs s.os.B.length = at_) (hat1 : s.os.base ≤ at_) (hat2 : at_ ≤ s.os.B.length) :
    Calls Tryz.prog 31 #[.pointer (some ⟨r, 0, none⟩), .agg (encF f).toArray] w fun e w' => e = .returned (.tuple #[]) ∧ SdM w w' fp r (s.ackd (s.os.ackG zs yz at_ fin)) := by
  have H := Lib.hid h
  obtain ⟨b, fb, h0, hfp⟩ := h
  obtain ⟨kd, sid, foff, vd, ffin, lim, code, fnl, seq, dly, vr, c0, c1, c2, c3, c4, c5, c6, c7⟩ := f
  obtain rfl : kd = 8 := hk
  obtain rfl : foff = off := hof
  obtain rfl : vd = .slice od n cd := hv
  obtain rfl : ffin = fin := hfi
  obtain rfl : sid = s.id := hs
  have HF := Lib.hid hf
  have hoff := hf.off
  simp only at hoff
  have H0 := Lib.hid h0
  have HY := Lib.hid (And.intro hyz (And.intro hly (And.intro hzs (And.intro hnz (And.intro hlz (And.intro hat (And.intro hat1 hat2)))))))
  have c0' : w.cell? ⟨r, 0, none⟩ = some (.int .u64 s.id) := (cell_at h0.blk 0).trans rfl
  have HFIN0 := Lib.hid (show ∀ W W8, Below w.heap.size w W → OM W W8 fb b (s.os.ackG zs yz at_ ffin) → SdM w W8 fp r { s with os := (s.os.ackG zs yz at_ ffin) } from fun W W8 hb hm => by
    obtain ⟨fb', h1, h2⟩ := hm
    have hm2 : OM w W8 fb b (s.os.ackG zs yz at_ ffin) := ⟨fb', h1, h2.first hb⟩
    exact sdm_of (s' := { s with os := (s.os.ackG zs yz at_ ffin) }) h0 hfp hm2 (Upd.refl _ _) (h0.later hm2) ⟨h0.ok.id, h0.ok.st, h0.ok.lim, h0.ok.rs⟩)
  obtain ⟨T, hT⟩ : ∃ T, s.ackd (s.os.ackG zs yz at_ ffin) = T := ⟨_, rfl⟩
  rw [hT]
  have HE1 := Lib.hid (show ∀ W, SdM w W fp r { s with os := (s.os.ackG zs yz at_ ffin), st := 4 } → s.st = 3 → (s.os.ackG zs yz at_ ffin).whole = true → SdM w W fp r T from fun W m h3 hw => by
    rw [← hT, SS.ackd, if_pos ⟨h3, hw⟩]
    exact m)
  have HE2 := Lib.hid (show ∀ W, SdM w W fp r { s with os := (s.os.ackG zs yz at_ ffin) } → ¬ (s.st = 3 ∧ (s.os.ackG zs yz at_ ffin).whole = true) → SdM w W fp r T from fun W m h3 => by
    rw [← hT, SS.ackd, if_neg h3]
    exact m)
  obtain ⟨st, hst⟩ : ∃ st, s.st = st := ⟨_, rfl⟩
  have HST := Lib.hid hst
  simp only [encF]
  generalize s.id = id at *
  clear hT hst
  clear h0 hfp hf hyz hly hzs hnz hlz hat hat1 hat2
  go_enter Tryz.func31, Tryz.ntmps31
  go_upto_region 0 with fail
  go_cut [3] (fun v wx => ∃ z, v = .pointer (some ⟨z, 0, none⟩) ∧ w.heap.size ≤ z ∧ Below w.heap.size w wx ∧ wx.heap[z]? = some (.cells #[.int .i64 8, .int .u64 id, .int .u64 foff, .slice od n cd, .bool ffin, .int .u64 lim, .int .u64 code, .int .u64 fnl, .int .u64 seq, .int .u64 dly, vr,
    .int .u8 c0, .int .u8 c1, .int .u8 c2, .int .u8 c3, .int .u8 c4, .int .u8 c5, .int .u8 c6, .int .u8 c7] 46 (0, 0)))
  case first =>
    go_wp2_with fail
    go_meet
    case rel => exact ⟨_, rfl, Nat.le_refl _, (Below.refl _ _).alloc (Nat.le_refl _) _, alloc_at _ _⟩
  case rest =>
    obtain ⟨z, rfl, hz, hb1, hkz⟩ := hcut
    generalize wc = w1 at *
    have HKZ := Lib.hid hkz
    have HBD := Lib.hid (show ∀ k, Below w.heap.size w (w1.drewN k) from fun k => below_drewN hb1 k)
    have HBD1 := Lib.hid (show Below w.heap.size w w1.drew from hb1.drew)
    have hrw := heap_lt H0.out.blk
    have HRK := Lib.hid (below_keeps hb1 H0.out.blk hrw)
    have HB := Lib.hid H0.out.buf
    have d0 := cell_keep hb1 hrw c0'
    have z0 := (cell_at hkz 0).trans (by rfl : _ = some (Value.int .i64 8))
    have z1 := (cell_at hkz 1).trans (by rfl : _ = some (Value.int .u64 id))
    clear hb1 hkz c0'
    go_wp2_with fail
    go_quiet (fail)
    go_wp2_with fail
    refine wp_region_till (S := fun w' => w'.cell? ⟨r, 24, none⟩ = some (.pointer (some ⟨b, 0, none⟩)) ∧ w'.cell? ⟨z, 2, none⟩ = some (.int .u64 foff) ∧ w'.cell? ⟨z, 3, none⟩ = some (.slice od n cd) ∧ w'.cell? ⟨z, 4, none⟩ = some (.bool ffin)) [11] (by kernel_rfl) (by exact ⟨(cell_at HRK.out 24).trans rfl, (cell_at HKZ.out 2).trans rfl, (cell_at HKZ.out 3).trans rfl, (cell_at HKZ.out 4).trans rfl⟩) (fun hHeld => ?_)
    refine wpTill_take0 (i := 0) (oi := ⟨some 16, _, _, _, _, _⟩) (v := ?_) rfl (by kernel_rfl) (fun _ _ _ h => h) (Or.inl ⟨by rfl, ?_⟩) (fun _ => hHeld) ?_
    rotate_left
    · intro w hSw
      (try dsimp only at hSw)
      go_simp
      try with_reducible rfl
    try simp only [Act.put, List.setIfInBounds_toArray, List.set_cons_zero, List.set_cons_succ]
    refine wpTill_take0 (i := 1) (oi := ⟨some 17, _, _, _, _, _⟩) (v := ?_) rfl (by kernel_rfl) (fun _ _ _ h => h) (Or.inl ⟨by rfl, ?_⟩) (fun _ => hHeld) ?_
    rotate_left
    · intro w hSw
      (try dsimp only at hSw)
      go_simp
      try with_reducible rfl
    try simp only [Act.put, List.setIfInBounds_toArray, List.set_cons_zero, List.set_cons_succ]
    refine wpTill_take0 (i := 2) (oi := ⟨some 18, _, _, _, _, _⟩) (v := ?_) rfl (by kernel_rfl) (fun _ _ _ h => h) (Or.inl ⟨by rfl, ?_⟩) (fun _ => hHeld) ?_
    rotate_left
    · intro w hSw
      (try dsimp only at hSw)
      go_simp
      try with_reducible rfl
    try simp only [Act.put, List.setIfInBounds_toArray, List.set_cons_zero, List.set_cons_succ]
    refine wpTill_take (i := 3) (oi := ⟨some 19, _, _, _, _, _⟩) (v := ?_) rfl (by kernel_rfl) (fun _ _ _ h => h) (Or.inl ⟨by rfl, ?_⟩) (by exact hHeld) ?_
    rotate_left
    · intro w hSw
      (try dsimp only at hSw)
      go_simp
      try with_reducible rfl
    try simp only [Act.put, List.setIfInBounds_toArray, List.set_cons_zero, List.set_cons_succ]
    refine wpTill_take0 (i := 4) (oi := ⟨some 20, _, _, _, _, _⟩) (v := ?_) rfl (by kernel_rfl) (fun _ _ _ h => h) (Or.inl ⟨by rfl, ?_⟩) (fun _ => hHeld) ?_
    rotate_left
    · intro w hSw
      (try dsimp only at hSw)
      go_simp
      try with_reducible rfl
    try simp only [Act.put, List.setIfInBounds_toArray, List.set_cons_zero, List.set_cons_succ]
    refine wpTill_take (i := 5) (oi := ⟨some 21, _, _, _, _, _⟩) (v := ?_) rfl (by kernel_rfl) (fun _ _ _ h => h) (Or.inl ⟨by rfl, ?_⟩) (by exact hHeld) ?_
    rotate_left
    · intro w hSw
      (try dsimp only at hSw)
      go_simp
      try with_reducible rfl
    try simp only [Act.put, List.setIfInBounds_toArray, List.set_cons_zero, List.set_cons_succ]
    refine wpTill_take0 (i := 6) (oi := ⟨some 22, _, _, _, _, _⟩) (v := ?_) rfl (by kernel_rfl) (fun _ _ _ h => h) (Or.inl ⟨by rfl, ?_⟩) (fun _ => hHeld) ?_
    rotate_left
    · intro w hSw
      (try dsimp only at hSw)
      go_simp
      try with_reducible rfl
    try simp only [Act.put, List.setIfInBounds_toArray, List.set_cons_zero, List.set_cons_succ]
    refine wpTill_take0 (i := 9) (oi := ⟨some 25, _, _, _, _, _⟩) (v := ?_) rfl (by kernel_rfl) (fun _ _ _ h => h) (Or.inl ⟨by rfl, ?_⟩) (fun _ => hHeld) ?_
    rotate_left
    · intro w hSw
      (try dsimp only at hSw)
      go_simp
      try with_reducible rfl
    try simp only [Act.put, List.setIfInBounds_toArray, List.set_cons_zero, List.set_cons_succ]
    refine wpTill_take (i := 10) (oi := ⟨some 26, _, _, _, _, _⟩) (v := ?_) rfl (by kernel_rfl) (fun _ _ _ h => h) (Or.inl ⟨by rfl, ?_⟩) (by exact hHeld) ?_
    rotate_left
    · intro w hSw
      (try dsimp only at hSw)
      go_simp
      try with_reducible rfl
    try simp only [Act.put, List.setIfInBounds_toArray, List.set_cons_zero, List.set_cons_succ]
    refine wpTill_ready (rs := [7]) (by kernel_rfl) (by simp) ?_
    refine AllTill.cons (o := ⟨some 23, _, _, _, _, _⟩) rfl (fun K hK => ?_) AllTill.nil
    have z3 := (cell_at HKZ.out 3).trans (by rfl : _ = some (Value.slice od n cd))
    go_simp
    refine hK.out _ _ (by exact hHeld) (fun hHeld => ?_)
    clear hK K
    try simp only [Act.put, List.setIfInBounds_toArray, List.set_cons_zero, List.set_cons_succ]
    refine wpTill_ready (rs := [8]) (by kernel_rfl) (by simp) ?_
    refine AllTill.cons (o := ⟨some 24, _, _, _, _, _⟩) rfl (fun K hK => ?_) AllTill.nil
    go_simp
    refine hK.out _ _ (by exact hHeld) (fun hHeld => ?_)
    clear hK K
    try simp only [Act.put, List.setIfInBounds_toArray, List.set_cons_zero, List.set_cons_succ]
    refine wpTill_ready (rs := [11]) (by kernel_rfl) (by simp) ?_
    refine AllTill.consD (o := ⟨some 27, _, _, _, _, _⟩) rfl (by kernel_rfl) (fun K hK => ?_) AllTill.nil
    go_simp
    go_at_call 51
    refine (oackG_any b s.os fb foff n zs at_ _ (by first | exact HB.out.below (HBD.out _) | exact HB.out.below HBD1.out) (by exact HF.out.off) (by omega) (by omega) ffin yz HY.out.1 HY.out.2.1 HY.out.2.2.1 HY.out.2.2.2.1 HY.out.2.2.2.2.1 HY.out.2.2.2.2.2.1 HY.out.2.2.2.2.2.2.1 HY.out.2.2.2.2.2.2.2).mono ?_
    rintro e W8 ⟨rfl, hm⟩
    have H8 := Lib.hid (by first | exact HFIN0.out _ _ (HBD.out _) hm | exact HFIN0.out _ _ HBD1.out hm)
    clear hm
    obtain ⟨e1, f1, _, _⟩ := H8.out.cell1
    obtain ⟨b8, fb8, ho8, e24⟩ := H8.out.ptr
    have HO8 := Lib.hid ho8
    clear ho8
    rw [show (_ : SS).st = st from HST.out] at e1
    refine hK.out _ _ ?_
    clear hK K
    try simp only [Act.put, List.setIfInBounds_toArray, List.set_cons_zero, List.set_cons_succ]
    refine wpTill_done (by kernel_rfl) ?_ _
    by_cases h3 : st = 3
    · subst h3
      go_wp2_with fail
      refine (owhole_q b8 _ fb8 _ (by exact HO8.out)).mono ?_
      obtain ⟨wh, hwh⟩ : ∃ wh, (s.os.ackG zs yz at_ ffin).whole = wh := ⟨_, rfl⟩
      have HWH := Lib.hid hwh
      unfold OS.whole at hwh
      rw [hwh]
      clear hwh
      rintro e w9 ⟨rfl, q9, rfl⟩
      cases wh
      · go_wp2_with fail
        go_end0
        exact ⟨rfl, HE2.out _ (H8.out.drewN _) (by rw [HWH.out]; simp)⟩
      · go_wp2_with fail
        go_end0
        exact ⟨rfl, HE1.out _ ((H8.out.drewN _).setSt 4 ⟨by omega, by omega⟩) HST.out HWH.out⟩
    · go_wp2_with fail
      go_end0
      exact ⟨rfl, HE2.out _ (H8.out.drewN 0) (fun q => h3 (HST.out.symm.trans q.1))⟩
set_option maxRecDepth 100000 in
set_option maxHeartbeats 2000000 in
theorem sack_rst (r : Nat) (s : SS) (fp : Nat → Prop) (f : Fr) (w : World) (h : SdAt w r s fp) (hk : f.kd = 4) (hs : f.sid = s.id) (h5 : s.st = 5) :
    Calls Tryz.prog 31 #[.pointer (some ⟨r, 0, none⟩), .agg (encF f).toArray] w fun e w' => e = .returned (.tuple #[]) ∧ SdM w w' fp r { s with st := 6, rq := false } := by
  have H := Lib.hid h
  obtain ⟨b, fb, h0, hfp⟩ := h
  obtain ⟨kd, sid, foff, vd, ffin, lim, code, fnl, seq, dly, vr, c0, c1, c2, c3, c4, c5, c6, c7⟩ := f
  obtain rfl : kd = 4 := hk
  obtain rfl : sid = s.id := hs
  have H0 := Lib.hid h0
  have c0' : w.cell? ⟨r, 0, none⟩ = some (.int .u64 s.id) := (cell_at h0.blk 0).trans rfl
  have c1' : w.cell? ⟨r, 1, none⟩ = some (.int .i64 5) := (cell_at h0.blk 1).trans (by rw [show (5 : Int) = (s.st : Int) by omega]; rfl)
  have c23 : w.cell? ⟨r, 23, none⟩ = some (.bool s.rq) := (cell_at h0.blk 23).trans rfl
  have f23 := free_at h0.blk 23
  have f1 := free_at h0.blk 1
  have HFIN0 := Lib.hid (show ∀ W, Below w.heap.size w W → SdM w ((W.setCell ⟨r, 1, none⟩ (.int .i64 6)).setCell ⟨r, 23, none⟩ (.bool false)) fp r { s with st := 6, rq := false } from fun W hb =>
    (((SdM.refl H.out).later hb).setSt 6 ⟨by omega, by omega⟩).setRq false)
  simp only [encF]
  generalize s.id = id at *
  clear h0 hfp
  go_enter Tryz.func31, Tryz.ntmps31
  go_upto_region 0 with fail
  go_cut [3] (fun v wx => ∃ z, v = .pointer (some ⟨z, 0, none⟩) ∧ w.heap.size ≤ z ∧ Below w.heap.size w wx ∧ wx.heap[z]? = some (.cells #[.int .i64 4, .int .u64 id, .int .u64 foff, vd, .bool ffin, .int .u64 lim, .int .u64 code, .int .u64 fnl, .int .u64 seq, .int .u64 dly, vr,
    .int .u8 c0, .int .u8 c1, .int .u8 c2, .int .u8 c3, .int .u8 c4, .int .u8 c5, .int .u8 c6, .int .u8 c7] 46 (0, 0)))
  case first =>
    go_wp2_with fail
    go_meet
    case rel => exact ⟨_, rfl, Nat.le_refl _, (Below.refl _ _).alloc (Nat.le_refl _) _, alloc_at _ _⟩
  case rest =>
    obtain ⟨z, rfl, hz, hb1, hkz⟩ := hcut
    generalize wc = w1 at *
    have hrw := heap_lt H0.out.blk
    have d0 := cell_keep hb1 hrw c0'
    have d1 := cell_keep hb1 hrw c1'
    have d23 := cell_keep hb1 hrw c23
    have g23 := free_at (below_keeps hb1 H0.out.blk hrw) 23
    have g1 := free_at (below_keeps hb1 H0.out.blk hrw) 1
    have HFIN := Lib.hid (show ∀ k, SdM w (((w1.drewN k).setCell ⟨r, 1, none⟩ (.int .i64 6)).setCell ⟨r, 23, none⟩ (.bool false)) fp r { s with id := id, st := 6, rq := false } from fun k => HFIN0.out _ (below_drewN hb1 k))
    have z0 := (cell_at hkz 0).trans (by rfl : _ = some (Value.int .i64 4))
    have z1 := (cell_at hkz 1).trans (by rfl : _ = some (Value.int .u64 id))
    clear hb1 hkz c0' c1' c23 f23 f1
    go_wp2_with fail
    go_quiet (fail)
    go_wp2_with fail
    go_end0
    exact ⟨rfl, HFIN.out _⟩
end Go.Proofs.YtnneoeimgbemfaaGreat
