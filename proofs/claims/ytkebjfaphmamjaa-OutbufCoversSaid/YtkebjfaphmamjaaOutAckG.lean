/- DERIVED. Walk of outbuf's Acked. -/
import Derived.Test.YtkebjfaphmamjaaOutNextG
namespace Go.Proofs.Ytkebjfaphmamjaa
open Go.RowKit

/-- Acknowledged: what becomes of it. -/
def OS.ackM (s : OS) (zs yz : List Rg) (f : Bool) : OS := { s with xs := zs, ys := yz, ea := s.ea || (f && s.es) }
def OS.ackG (s : OS) (zs yz : List Rg) (at_ : Nat) (f : Bool) : OS := { s with xs := zs, ys := yz, ea := s.ea || (f && s.es), base := at_ }
set_option maxRecDepth 100000 in
set_option maxHeartbeats 2000000 in
theorem oackG_any (b : Nat) (s : OS) (fp : Nat → Prop) (off : Nat) (n : Int) (zs : List Rg) (at_ : Nat) (w : World) (h : OAt w b s fp) (ho : off < 18446744073709551616) (hn : -9223372036854775808 ≤ n) (hn2 : n ≤ 9223372036854775807) (f : Bool) (yz : List Rg) (hyz : cutRaw (s.kn off n).1 (s.kn off n).2 s.ys = yz) (hly : yz.length ≤ 100000)
    (hzs : s.ackX (s.kn off n) = zs) (hnz : Norm zs) (hlz : zs.length ≤ 100000) (hat : atOf zs s.B.length = at_) (hat1 : s.base ≤ at_) (hat2 : at_ ≤ s.B.length) :
    Calls Try.prog 12 #[.pointer (some ⟨b, 0, none⟩), .int .u64 off, .int .i64 n, .bool f] w fun e w' => e = .returned (.tuple #[]) ∧ OM w w' fp b (s.ackG zs yz at_ f) := by
  obtain ⟨i0, hi0, hz0, hz1, hz2'⟩ := info_parts infoB
  have hlen := h.ok.len
  have hsl := h.ok.sent
  obtain ⟨from_, to_, hkn⟩ : ∃ f t, s.kn off n = (f, t) := ⟨_, _, rfl⟩
  have hto : to_ ≤ s.B.length ∧ from_ ≤ s.B.length := by
    unfold OS.kn at hkn
    simp only [Prod.mk.injEq] at hkn
    omega
  have H := Lib.hid h
  have HYZ := Lib.hid (show cutRaw from_ to_ s.ys = yz by rw [← hyz, hkn])
  have HNY := Lib.hid (show Norm yz by rw [← hyz]; exact cut_norm _ _ _ h.ok.ny)
  have HLY := Lib.hid hly
  have HKN := Lib.hid hkn
  have HZS := Lib.hid (show (if from_ < to_ ∧ to_ ≤ 4611686018427387904 then addL many s.xs from_ to_ else s.xs) = zs by
    rw [← hzs, hkn]
    unfold OS.ackX
    by_cases q : from_ < to_
    · rw [if_pos ⟨q, by omega⟩, if_pos q]
    · rw [if_neg (fun q2 => q q2.1), if_neg q])
  have HNZ := Lib.hid (And.intro hnz hlz)
  have HAT := Lib.hid (And.intro hat (And.intro hat1 hat2))
  clear h hyz hly hkn hzs hnz hlz hat hat1 hat2
  obtain ⟨hto1, hto2⟩ := hto
  go_enter Try.func12, Try.ntmps12
  go_wp2_with fail
  refine (oknown_q b s fp off n _ (by exact H.out) ho hn hn2).mono ?_
  rw [HKN.out]
  rintro e w1 ⟨rfl, q, rfl⟩
  have H1 := Lib.hid ((OM.refl H.out).drewN q)
  generalize w.drewN q = w1 at *
  obtain ⟨fp1, hoa, hw1⟩ := H1.out
  obtain ⟨vb, ob, c, oc, d, od, hO, hfp⟩ := hoa
  rw [hfp] at hw1
  have HO := Lib.hid hO
  have HW := Lib.hid hw1
  have c4 : w1.cell? ⟨b, 4, none⟩ = some (.pointer (some ⟨c, 0, none⟩)) := (cell_at hO.blk 4).trans rfl
  clear hO hfp hw1 H1
  go_wp2_with fail
  refine (add_any c many oc s.xs from_ to_ _ (by exact HO.out.sx) (by decide) (by decide) (by have := HO.out.ok.lx; omega)).mono ?_
  rw [HZS.out]
  rintro e w2 ⟨rfl, ht⟩
  have H2 := Lib.hid (om_turnC HO.out HW.out ht HNZ.out.1 HNZ.out.2)
  clear ht HO HW c4
  obtain ⟨fp2, hoa, hw2⟩ := H2.out
  obtain ⟨vb, ob, c, oc, d, od, hO, hfp⟩ := hoa
  rw [hfp] at hw2
  have HO := Lib.hid hO
  have HW := Lib.hid hw2
  have c5 : w2.cell? ⟨b, 5, none⟩ = some (.pointer (some ⟨d, 0, none⟩)) := (cell_at hO.blk 5).trans rfl
  clear hO hfp hw2 H2
  go_wp2_with fail
  refine (cut_any d many od s.ys from_ to_ _ (by exact HO.out.sy) (by decide) (by decide) (by omega) (by omega) HO.out.ok.ny (by have h9 : s.ys.length ≤ 100000 := HO.out.ok.ly; omega)).mono ?_
  rw [HYZ.out]
  rintro e w3 ⟨rfl, ht⟩
  rw [trim_all (by have := HLY.out; unfold many; omega)] at ht
  have hm3 := om_turnD HO.out HW.out ht HNY.out HLY.out
  have H3 := Lib.hid hm3
  clear ht HO HW c5 hm3
  go_upto_region 3 with fail
  go_cut [40] (fun v wx => v = .bool (f && s.es) ∧ wx = w3)
  case first =>
    obtain ⟨fp3, hoa, hw3⟩ := H3.out
    obtain ⟨vb, ob, c, oc, d, od, hO, hfp⟩ := hoa
    have e7 : w3.cell? ⟨b, 7, none⟩ = some (.bool s.es) := (cell_at hO.blk 7).trans rfl
    clear hO hfp hw3 H3
    cases f
    · go_wp2_with fail
      go_meet
      case rel => exact ⟨rfl, rfl⟩
    · go_wp2_with fail
      go_meet
      case rel => exact ⟨rfl, rfl⟩
  case rest =>
  obtain ⟨rfl, rfl⟩ := hcut
  generalize wc = w3 at *
  obtain ⟨q, hq⟩ : ∃ q, (f && s.es) = q := ⟨_, rfl⟩
  have HQ := Lib.hid hq
  rw [hq]
  clear hq
  go_upto_if 40 with fail
  go_cut [] (fun wx => OM w wx fp b (s.ackM zs yz f))
  case first =>
    obtain ⟨fp3, hoa, hw3⟩ := H3.out
    obtain ⟨vb, ob, c, oc, d, od, hO, hfp⟩ := hoa
    rw [hfp] at hw3
    have e8 : w3.cell? ⟨b, 8, none⟩ = some (.bool s.ea) := (cell_at hO.blk 8).trans rfl
    have q8 := free_at hO.blk 8
    have HM0 := Lib.hid (fun (hq : (s.ea || (f && s.es)) = s.ea) => show OM w w3 fp b (s.ackM zs yz f) from by
      unfold OS.ackM
      rw [hq]
      exact H3.out)
    have HM1 := Lib.hid (fun (hq : (s.ea || (f && s.es)) = true) => show OM w (w3.setCell ⟨b, 8, none⟩ (.bool true)) fp b (s.ackM zs yz f) from by
      unfold OS.ackM
      rw [hq]
      exact om_set (s' := { s with xs := zs, ys := yz, ea := true }) hO hw3 (Upd.refl _ _) ((Upd.refl (fun j => j = b) w3).setCell ⟨b, 8, none⟩ (.inl rfl) _) (set_at hO.blk 8 _) hO.row (.inl rfl) rfl rfl ⟨hO.ok.len, hO.ok.base, hO.ok.sent, hO.ok.nx, hO.ok.ny, hO.ok.lx, hO.ok.ly, hO.ok.bys⟩)
    clear hO hfp hw3 H3
    cases q
    · have HE := Lib.hid (show (s.ea || (f && s.es)) = s.ea by rw [HQ.out]; simp)
      clear HQ
      go_wp2_with fail
      go_meet
      case rel => exact HM0.out HE.out
    · have HE := Lib.hid (show (s.ea || (f && s.es)) = true by rw [HQ.out]; simp)
      clear HQ
      go_wp2_with fail
      go_meet
      case rel => exact HM1.out HE.out
  case rest =>
  have H3 := Lib.hid (show OM w wc fp b (s.ackM zs yz f) from hcut)
  clear hcut
  generalize wc = w3 at *
  obtain ⟨fp3, hoa, hw3⟩ := H3.out
  obtain ⟨vb, ob, c, oc, d, od, hO, hfp⟩ := hoa
  rw [hfp] at hw3
  have HO := Lib.hid hO
  have HW := Lib.hid hw3
  clear hO hfp hw3 H3
  obtain ⟨len, hln⟩ : ∃ len, s.B.length = len := ⟨_, rfl⟩
  have HLE := Lib.hid hln
  rw [hln] at hlen hsl hto1 hto2 HAT
  obtain ⟨lo, hi, ok, hga⟩ : ∃ lo hi ok, gapL zs 0 len = ((lo, hi), ok) := ⟨_, _, _, rfl⟩
  have HGA := Lib.hid hga
  have e2 : w3.cell? ⟨b, 2, none⟩ = some (.int .u64 len) := by rw [cell_at HO.out.blk, ← hln]; rfl
  have HSX := Lib.hid (show SetAt w3.drew c many oc zs from HO.out.sx.below (Below.refl _ _).drew)
  have HSof := Lib.hid (show ∀ W, Below w3.drew.heap.size w3.drew W → W.cell? ⟨b, 4, none⟩ = some (.pointer (some ⟨c, 0, none⟩)) ∧ W.cell? ⟨b, 2, none⟩ = some (.int .u64 len) from fun W h => by
    have hk := below_keeps h (show w3.drew.heap[b]? = _ from HO.out.blk) (heap_lt HO.out.blk)
    refine ⟨(cell_at hk 4).trans rfl, ?_⟩
    rw [cell_at hk, ← hln]
    rfl)
  have HNX := Lib.hid HNZ.out.1
  clear hln hga
  go_upto_region 6 with fail
  go_cut [11, 12] (fun v a wx => ∃ z, v = .pointer (some ⟨z, 0, none⟩) ∧ a = .bool ok ∧ wx.cell? ⟨z, 0, none⟩ = some (.int .u64 lo) ∧ Below w3.drew.heap.size w3.drew wx)
  case first =>
    go_wp2_with fail
    have hb : Below w3.drew.heap.size w3.drew w3.drew := Below.refl _ _
    refine wp_region_till (S := fun w' => w'.cell? ⟨b, 4, none⟩ = some (.pointer (some ⟨c, 0, none⟩)) ∧ w'.cell? ⟨b, 2, none⟩ = some (.int .u64 len)) [] (by kernel_rfl) (by exact HSof.out _ hb) (fun hHeld => ?_)
    refine wpTill_take0 (i := 0) (oi := ⟨some 49, _, _, _, _, _⟩) (v := ?_) rfl (by kernel_rfl) (fun _ _ _ h => h) (Or.inl ⟨by rfl, ?_⟩) (fun _ => hHeld) ?_
    rotate_left
    · intro w hSw
      (try dsimp only at hSw)
      go_simp
      try with_reducible rfl
    try simp only [Act.put, List.setIfInBounds_toArray, List.set_cons_zero, List.set_cons_succ]
    refine wpTill_take0 (i := 1) (oi := ⟨some 50, _, _, _, _, _⟩) (v := ?_) rfl (by kernel_rfl) (fun _ _ _ h => h) (Or.inl ⟨by rfl, ?_⟩) (fun _ => hHeld) ?_
    rotate_left
    · intro w hSw
      (try dsimp only at hSw)
      go_simp
      try with_reducible rfl
    try simp only [Act.put, List.setIfInBounds_toArray, List.set_cons_zero, List.set_cons_succ]
    refine wpTill_take0 (i := 2) (oi := ⟨some 51, _, _, _, _, _⟩) (v := ?_) rfl (by kernel_rfl) (fun _ _ _ h => h) (Or.inl ⟨by rfl, ?_⟩) (fun _ => hHeld) ?_
    rotate_left
    · intro w hSw
      (try dsimp only at hSw)
      go_simp
      try with_reducible rfl
    try simp only [Act.put, List.setIfInBounds_toArray, List.set_cons_zero, List.set_cons_succ]
    refine wpTill_take (i := 3) (oi := ⟨some 52, _, _, _, _, _⟩) (v := ?_) rfl (by kernel_rfl) (fun _ _ _ h => h) (Or.inl ⟨by rfl, ?_⟩) (by exact hHeld) ?_
    rotate_left
    · intro w hSw
      (try dsimp only at hSw)
      go_simp
      try with_reducible rfl
    try simp only [Act.put, List.setIfInBounds_toArray, List.set_cons_zero, List.set_cons_succ]
    refine wpTill_take0 (i := 4) (oi := ⟨some 53, _, _, _, _, _⟩) (v := ?_) rfl (by kernel_rfl) (fun _ _ _ h => h) (Or.inl ⟨by rfl, ?_⟩) (fun _ => hHeld) ?_
    rotate_left
    · intro w hSw
      (try dsimp only at hSw)
      go_simp
      try with_reducible rfl
    try simp only [Act.put, List.setIfInBounds_toArray, List.set_cons_zero, List.set_cons_succ]
    refine wpTill_take0 (i := 5) (oi := ⟨some 54, _, _, _, _, _⟩) (v := ?_) rfl (by kernel_rfl) (fun _ _ _ h => h) (Or.inl ⟨by rfl, ?_⟩) (fun _ => hHeld) ?_
    rotate_left
    · intro w hSw
      (try dsimp only at hSw)
      go_simp
      try with_reducible rfl
    try simp only [Act.put, List.setIfInBounds_toArray, List.set_cons_zero, List.set_cons_succ]
    refine wpTill_take0 (i := 6) (oi := ⟨some 55, _, _, _, _, _⟩) (v := ?_) rfl (by kernel_rfl) (fun _ _ _ h => h) (Or.inl ⟨by rfl, ?_⟩) (fun _ => hHeld) ?_
    rotate_left
    · intro w hSw
      (try dsimp only at hSw)
      go_simp
      try with_reducible rfl
    try simp only [Act.put, List.setIfInBounds_toArray, List.set_cons_zero, List.set_cons_succ]
    refine wpTill_take (i := 7) (oi := ⟨some 56, _, _, _, _, _⟩) (v := ?_) rfl (by kernel_rfl) (fun _ _ _ h => h) (Or.inl ⟨by rfl, ?_⟩) (by exact hHeld) ?_
    rotate_left
    · intro w hSw
      (try dsimp only at hSw)
      go_simp
      try with_reducible rfl
    try simp only [Act.put, List.setIfInBounds_toArray, List.set_cons_zero, List.set_cons_succ]
    refine wpTill_ready (rs := [8, 12]) (by kernel_rfl) (by simp) ?_
    refine AllTill.cons (o := ⟨some 57, _, _, _, _, _⟩) rfl (fun K hK => ?_) ?_
    · go_simp
      go_at_call 29
      refine (gap_any c many oc zs 0 len _ (by exact HSX.out.below hb) (by omega) (by omega) HNX.out).mono ?_
      rw [HGA.out]
      rintro e W8 ⟨rfl, hx8⟩
      have hb := below_call hb hb.size hx8
      go_wp2_with fail
      refine hK.out _ _ (by exact HSof.out _ hb) (fun hHeld => ?_)
      clear hK K
      try simp only [Act.put, List.setIfInBounds_toArray, List.set_cons_zero, List.set_cons_succ]
      refine wpTill_take0 (i := 9) (oi := ⟨some 48, _, _, _, _, _⟩) (v := ?_) rfl (by kernel_rfl) (fun _ _ _ h => h) (Or.inl ⟨by rfl, ?_⟩) (fun _ => hHeld) ?_
      rotate_left
      · intro w hSw
        (try dsimp only at hSw)
        go_simp
        try with_reducible rfl
      try simp only [Act.put, List.setIfInBounds_toArray, List.set_cons_zero, List.set_cons_succ]
      refine wpTill_take0 (i := 10) (oi := ⟨some 58, _, _, _, _, _⟩) (v := ?_) rfl (by kernel_rfl) (fun _ _ _ h => h) (Or.inl ⟨by rfl, ?_⟩) (fun _ => hHeld) ?_
      rotate_left
      · intro w hSw
        (try dsimp only at hSw)
        go_simp
        try with_reducible rfl
      try simp only [Act.put, List.setIfInBounds_toArray, List.set_cons_zero, List.set_cons_succ]
      refine wpTill_take0 (i := 11) (oi := ⟨some 59, _, _, _, _, _⟩) (v := ?_) rfl (by kernel_rfl) (fun _ _ _ h => h) (Or.inl ⟨by rfl, ?_⟩) (fun _ => hHeld) ?_
      rotate_left
      · intro w hSw
        (try dsimp only at hSw)
        go_simp
        try with_reducible rfl
      try simp only [Act.put, List.setIfInBounds_toArray, List.set_cons_zero, List.set_cons_succ]
      refine wpTill_ready (rs := [12]) (by kernel_rfl) (by simp) ?_
      refine AllTill.cons (o := ⟨some 11, _, _, _, _, _⟩) rfl (fun K hK => ?_) AllTill.nil
      go_simp
      have hb8 := hb
      have hb := hb.alloc hb.size (.cells #[.int .u64 0, .int .u64 0] 59)
      refine hK.out _ _ (by exact HSof.out _ hb) (fun hHeld => ?_)
      clear hK K
      try simp only [Act.put, List.setIfInBounds_toArray, List.set_cons_zero, List.set_cons_succ]
      refine wpTill_ready (rs := [13]) (by kernel_rfl) (by simp) ?_
      refine AllTill.cons (o := ⟨none, _, _, _, _, _⟩) rfl (fun K hK => ?_) AllTill.nil
      go_simp
      have hb := hb8.alloc hb8.size (.cells #[.int .u64 lo, .int .u64 hi] 59)
      have hzz := alloc_at W8 (.cells #[.int .u64 lo, .int .u64 hi] 59)
      refine hK.out _ _ (by exact HSof.out _ hb) (fun hHeld => ?_)
      clear hK K
      try simp only [Act.put, List.setIfInBounds_toArray, List.set_cons_zero, List.set_cons_succ]
      refine wpTill_ready (rs := [14]) (by kernel_rfl) (by simp) ?_
      refine AllTill.cons (o := ⟨some 12, _, _, _, _, _⟩) rfl (fun K hK => ?_) AllTill.nil
      go_simp
      refine hK.out _ _ (by exact HSof.out _ hb) (fun hHeld => ?_)
      clear hK K
      try simp only [Act.put, List.setIfInBounds_toArray, List.set_cons_zero, List.set_cons_succ]
      refine wpTill_done (by kernel_rfl) ?_ _
      go_wp2_with fail
      go_meet
      case rel => exact ⟨_, rfl, rfl, (cell_at hzz 0).trans rfl, hb⟩
    refine AllTill.cons (o := ⟨some 11, _, _, _, _, _⟩) rfl (fun K hK => ?_) ?_
    · go_simp
      have hzz : (w3.drew.alloc (.cells #[.int .u64 0, .int .u64 0] 59)).heap[w3.heap.size]? = some (.cells #[.int .u64 0, .int .u64 0] 59 (0, 0)) := alloc_at w3.drew _
      have hz12 : w3.drew.heap.size ≤ w3.heap.size := Nat.le_refl _
      have hb := hb.alloc hb.size (.cells #[.int .u64 0, .int .u64 0] 59)
      refine hK.out _ _ (by exact HSof.out _ hb) (fun hHeld => ?_)
      clear hK K
      try simp only [Act.put, List.setIfInBounds_toArray, List.set_cons_zero, List.set_cons_succ]
      refine wpTill_ready (rs := [8]) (by kernel_rfl) (by simp) ?_
      refine AllTill.cons (o := ⟨some 57, _, _, _, _, _⟩) rfl (fun K hK => ?_) AllTill.nil
      go_simp
      go_at_call 29
      refine (gap_any c many oc zs 0 len _ (by exact HSX.out.below hb) (by omega) (by omega) HNX.out).mono ?_
      rw [HGA.out]
      rintro e W8 ⟨rfl, hx8⟩
      have hb := below_call hb hb.size hx8
      have hzz := below_keeps hx8 hzz (heap_lt hzz)
      go_wp2_with fail
      refine hK.out _ _ (by exact HSof.out _ hb) (fun hHeld => ?_)
      clear hK K
      try simp only [Act.put, List.setIfInBounds_toArray, List.set_cons_zero, List.set_cons_succ]
      refine wpTill_take0 (i := 9) (oi := ⟨some 48, _, _, _, _, _⟩) (v := ?_) rfl (by kernel_rfl) (fun _ _ _ h => h) (Or.inl ⟨by rfl, ?_⟩) (fun _ => hHeld) ?_
      rotate_left
      · intro w hSw
        (try dsimp only at hSw)
        go_simp
        try with_reducible rfl
      try simp only [Act.put, List.setIfInBounds_toArray, List.set_cons_zero, List.set_cons_succ]
      refine wpTill_take0 (i := 10) (oi := ⟨some 58, _, _, _, _, _⟩) (v := ?_) rfl (by kernel_rfl) (fun _ _ _ h => h) (Or.inl ⟨by rfl, ?_⟩) (fun _ => hHeld) ?_
      rotate_left
      · intro w hSw
        (try dsimp only at hSw)
        go_simp
        try with_reducible rfl
      try simp only [Act.put, List.setIfInBounds_toArray, List.set_cons_zero, List.set_cons_succ]
      refine wpTill_take0 (i := 11) (oi := ⟨some 59, _, _, _, _, _⟩) (v := ?_) rfl (by kernel_rfl) (fun _ _ _ h => h) (Or.inl ⟨by rfl, ?_⟩) (fun _ => hHeld) ?_
      rotate_left
      · intro w hSw
        (try dsimp only at hSw)
        go_simp
        try with_reducible rfl
      try simp only [Act.put, List.setIfInBounds_toArray, List.set_cons_zero, List.set_cons_succ]
      refine wpTill_ready (rs := [13]) (by kernel_rfl) (by simp) ?_
      refine AllTill.cons (o := ⟨none, _, _, _, _, _⟩) rfl (fun K hK => ?_) AllTill.nil
      have z0 := cell_at hzz 0
      have z1 := cell_at hzz 1
      have y0 := free_at hzz 0
      have y1 := free_at hzz 1
      go_simp
      have hb := (hb.setCell (p := ⟨w3.heap.size, 0, none⟩) hz12 (.int .u64 lo)).setCell (p := ⟨w3.heap.size, 1, none⟩) hz12 (.int .u64 hi)
      have hzz := set_at (set_at hzz 0 (.int .u64 lo)) 1 (.int .u64 hi)
      refine hK.out _ _ (by exact HSof.out _ hb) (fun hHeld => ?_)
      clear hK K
      try simp only [Act.put, List.setIfInBounds_toArray, List.set_cons_zero, List.set_cons_succ]
      refine wpTill_ready (rs := [14]) (by kernel_rfl) (by simp) ?_
      refine AllTill.cons (o := ⟨some 12, _, _, _, _, _⟩) rfl (fun K hK => ?_) AllTill.nil
      go_simp
      refine hK.out _ _ (by exact HSof.out _ hb) (fun hHeld => ?_)
      clear hK K
      try simp only [Act.put, List.setIfInBounds_toArray, List.set_cons_zero, List.set_cons_succ]
      refine wpTill_done (by kernel_rfl) ?_ _
      go_wp2_with fail
      go_meet
      case rel => exact ⟨_, rfl, rfl, (cell_at hzz 0).trans rfl, hb⟩
    exact AllTill.nil
  case rest =>
    obtain ⟨z, rfl, rfl, hz0, hb4⟩ := hcut
    generalize wc = w4 at *
    have hb34 : Below w3.heap.size w3 w4 := below_call (Below.refl _ _).drew (Nat.le_refl _) hb4
    have HO4 := Lib.hid (HO.out.below hb34)
    have HW4 := Lib.hid (HW.out.later hb34)
    have hatv : (if ok then lo else len) = at_ := by
      have := HAT.out.1
      unfold atOf at this
      rw [HGA.out] at this
      exact this
    obtain ⟨_, hat1, hat2⟩ := HAT.out
    clear hb4 hb34 HSof HSX HO HW e2
    go_upto_if 60 with fail
    go_cut [10] (fun v wx => v = .int .u64 at_ ∧ wx = w4)
    case first =>
      cases ok
      · simp at hatv
        subst hatv
        go_wp2_with fail
        go_meet
        case rel => exact ⟨rfl, rfl⟩
      · simp at hatv
        subst hatv
        go_wp2_with fail
        go_meet
        case rel => exact ⟨rfl, rfl⟩
    case rest =>
      obtain ⟨rfl, rfl⟩ := hcut
      clear hatv hz0
      generalize wc = w4 at *
      obtain ⟨oB, cB, e0, hcB, hcB2⟩ := HO4.out.row.shape
      obtain ⟨base, hbase⟩ : ∃ base, s.base = base := ⟨_, rfl⟩
      have HBA := Lib.hid hbase
      obtain ⟨n0, hn0⟩ : ∃ n0, len - base = n0 := ⟨_, rfl⟩
      have hdl : (s.B.drop s.base).length = n0 := by rw [List.length_drop, HLE.out, hbase]; exact hn0
      rw [show (((s.ackM zs yz f).B.drop (s.ackM zs yz f).base)).length = n0 from hdl] at e0 hcB
      subst e0
      rw [hbase] at hat1
      obtain ⟨l, hl, hl2⟩ : ∃ l : Nat, (at_ : Int) - (base : Int) = (l : Int) ∧ at_ - base = l := ⟨at_ - base, by omega, rfl⟩
      have hln0 : l ≤ n0 := by omega
      have hwl : IntKind.u64.wrap (l : Int) = l := IntWalk.u64_in _ (by omega)
      have HBK4 := Lib.hid (show w4.drew.heap[b]? = some (.cells #[.slice oB n0 cB, .int .u64 base, .int .u64 s.B.length, .int .u64 s.sent, .pointer (some ⟨c, 0, none⟩), .pointer (some ⟨d, 0, none⟩), .bool s.fi, .bool s.es, .bool (s.ea || (f && s.es)), .bool s.el] 51 (0, 0)) from by
        rw [← hbase]
        exact HO4.out.blk)
      have HRT := Lib.hid (show ∃ og', SlO encB 1 5 w4.drew (tailV oB 1 n0 cB l) og' (s.B.drop at_) ∧ (og' = ob ∨ og' = none) from by
        obtain ⟨og', h1, h2⟩ := SlO.tail (HO4.out.row.below (Below.refl _ _).drew) hln0
        refine ⟨og', ?_, h2⟩
        have e : (s.B.drop s.base).drop l = s.B.drop at_ := by rw [List.drop_drop, hbase, show base + l = at_ by omega]
        rw [← e]
        exact h1)
      have HFIN := Lib.hid (show OM w ((w4.drew.setCell ⟨b, 0, none⟩ (tailV oB 1 n0 cB l)).setCell ⟨b, 1, none⟩ (.int .u64 (at_ : Nat))) fp b (s.ackG zs yz at_ f) from by
        obtain ⟨og', h1, h2⟩ := HRT.out
        have ho := HO4.out.ok
        refine om_set (s' := s.ackG zs yz at_ f) (HO4.out.below (Below.refl _ _).drew) (HW4.out.later (Below.refl _ _).drew) (Upd.refl _ _) (((Upd.refl (fun j => j = b) w4.drew).setCell ⟨b, 0, none⟩ (.inl rfl) _).setCell ⟨b, 1, none⟩ (.inl rfl) _) (set_at (set_at HBK4.out 0 (tailV oB 1 n0 cB l)) 1 (.int .u64 (at_ : Nat))) h1 (h2.imp id .inl) rfl rfl ⟨ho.len, by show at_ ≤ s.B.length; rw [HLE.out]; exact hat2, ho.sent, ho.nx, ho.ny, ho.lx, ho.ly, ho.bys⟩)
      obtain ⟨oT, hT⟩ : ∃ oT, tailV oB 1 n0 cB l = .slice oT (n0 - l) (cB - l) := ⟨_, rfl⟩
      rw [hT] at HFIN
      have HTT := Lib.hid hT
      have e1 : w4.cell? ⟨b, 1, none⟩ = some (.int .u64 base) := (cell_at (show w4.heap[b]? = _ from HBK4.out) 1).trans rfl
      have q1 : w4.frozen? ⟨b, 1, none⟩ = false := free_at (show w4.heap[b]? = _ from HBK4.out) 1
      clear hdl hn0 hl2 hat1 hat2 hbase hT HRT
      go_wp2_with fail
      refine wp_region_till (S := fun w' => w'.cell? ⟨b, 0, none⟩ = some (.slice oB n0 cB) ∧ w'.cell? ⟨b, 1, none⟩ = some (.int .u64 base)) [14] (by kernel_rfl) (by exact ⟨(cell_at HBK4.out 0).trans rfl, (cell_at HBK4.out 1).trans rfl⟩) (fun hHeld => ?_)
      refine wpTill_take0 (i := 0) (oi := ⟨some 63, _, _, _, _, _⟩) (v := ?_) rfl (by kernel_rfl) (fun _ _ _ h => h) (Or.inl ⟨by rfl, ?_⟩) (fun _ => hHeld) ?_
      rotate_left
      · intro w hSw
        (try dsimp only at hSw)
        go_simp
        try with_reducible rfl
      try simp only [Act.put, List.setIfInBounds_toArray, List.set_cons_zero, List.set_cons_succ]
      refine wpTill_take0 (i := 1) (oi := ⟨some 64, _, _, _, _, _⟩) (v := ?_) rfl (by kernel_rfl) (fun _ _ _ h => h) (Or.inl ⟨by rfl, ?_⟩) (fun _ => hHeld) ?_
      rotate_left
      · intro w hSw
        (try dsimp only at hSw)
        go_simp
        try with_reducible rfl
      try simp only [Act.put, List.setIfInBounds_toArray, List.set_cons_zero, List.set_cons_succ]
      refine wpTill_take0 (i := 2) (oi := ⟨some 65, _, _, _, _, _⟩) (v := ?_) rfl (by kernel_rfl) (fun _ _ _ h => h) (Or.inl ⟨by rfl, ?_⟩) (fun _ => hHeld) ?_
      rotate_left
      · intro w hSw
        (try dsimp only at hSw)
        go_simp
        try with_reducible rfl
      try simp only [Act.put, List.setIfInBounds_toArray, List.set_cons_zero, List.set_cons_succ]
      refine wpTill_take0 (i := 3) (oi := ⟨some 66, _, _, _, _, _⟩) (v := ?_) rfl (by kernel_rfl) (fun _ _ _ h => h) (Or.inl ⟨by rfl, ?_⟩) (fun _ => hHeld) ?_
      rotate_left
      · intro w hSw
        (try dsimp only at hSw)
        go_simp
        try with_reducible rfl
      try simp only [Act.put, List.setIfInBounds_toArray, List.set_cons_zero, List.set_cons_succ]
      refine wpTill_take (i := 4) (oi := ⟨some 67, _, _, _, _, _⟩) (v := ?_) rfl (by kernel_rfl) (fun _ _ _ h => h) (Or.inl ⟨by rfl, ?_⟩) (by exact hHeld) ?_
      rotate_left
      · intro w hSw
        (try dsimp only at hSw)
        go_simp
        try with_reducible rfl
      try simp only [Act.put, List.setIfInBounds_toArray, List.set_cons_zero, List.set_cons_succ]
      refine wpTill_take0 (i := 5) (oi := ⟨some 68, _, _, _, _, _⟩) (v := ?_) rfl (by kernel_rfl) (fun _ _ _ h => h) (Or.inl ⟨by rfl, ?_⟩) (fun _ => hHeld) ?_
      rotate_left
      · intro w hSw
        (try dsimp only at hSw)
        go_simp
        try with_reducible rfl
      try simp only [Act.put, List.setIfInBounds_toArray, List.set_cons_zero, List.set_cons_succ]
      refine wpTill_take0 (i := 6) (oi := ⟨some 69, _, _, _, _, _⟩) (v := ?_) rfl (by kernel_rfl) (fun _ _ _ h => h) (Or.inl ⟨by rfl, ?_⟩) (fun _ => hHeld) ?_
      rotate_left
      · intro w hSw
        (try dsimp only at hSw)
        go_simp
        try with_reducible rfl
      try simp only [Act.put, List.setIfInBounds_toArray, List.set_cons_zero, List.set_cons_succ]
      refine wpTill_take0 (i := 7) (oi := ⟨some 70, _, _, _, _, _⟩) (v := ?_) rfl (by kernel_rfl) (fun _ _ _ h => h) (Or.inl ⟨by rfl, ?_⟩) (fun _ => hHeld) ?_
      rotate_left
      · intro w hSw
        (try dsimp only at hSw)
        go_simp
        try with_reducible rfl
      try simp only [Act.put, List.setIfInBounds_toArray, List.set_cons_zero, List.set_cons_succ]
      refine wpTill_take0 (i := 8) (oi := ⟨some 71, _, _, _, _, _⟩) (v := ?_) rfl (by kernel_rfl) (fun _ _ _ h => h) (Or.inl ⟨by rfl, ?_⟩) (fun _ => hHeld) ?_
      rotate_left
      · intro w hSw
        (try dsimp only at hSw)
        go_simp
        try with_reducible rfl
      try simp only [Act.put, List.setIfInBounds_toArray, List.set_cons_zero, List.set_cons_succ]
      refine wpTill_take (i := 9) (oi := ⟨some 72, _, _, _, _, _⟩) (v := ?_) rfl (by kernel_rfl) (fun _ _ _ h => h) (Or.inl ⟨by rfl, ?_⟩) (by exact hHeld) ?_
      rotate_left
      · intro w hSw
        (try dsimp only at hSw)
        go_simp
        try with_reducible rfl
      try simp only [Act.put, List.setIfInBounds_toArray, List.set_cons_zero, List.set_cons_succ]
      refine wpTill_take0 (i := 10) (oi := ⟨some 73, _, _, _, _, _⟩) (v := ?_) rfl (by kernel_rfl) (fun _ _ _ h => h) (Or.inl ⟨by rfl, ?_⟩) (fun _ => hHeld) ?_
      rotate_left
      · intro w hSw
        (try dsimp only at hSw)
        go_simp
        try with_reducible rfl
      try simp only [Act.put, List.setIfInBounds_toArray, List.set_cons_zero, List.set_cons_succ]
      refine wpTill_take0 (i := 11) (oi := ⟨some 74, _, _, _, _, _⟩) (v := .slice oT (n0 - l) (cB - l)) rfl (by kernel_rfl) (fun _ _ _ h => h) (Or.inl ⟨by rfl, ?_⟩) (fun _ => hHeld) ?_
      · intro w hSw
        refine Eq.trans (exec_tailK Try.underlying28 hi0 rfl rfl rfl hln0 hcB) ?_
        rw [hz1, HTT.out]
      try simp only [Act.put, List.setIfInBounds_toArray, List.set_cons_zero, List.set_cons_succ]
      refine wpTill_take0 (i := 12) (oi := ⟨some 75, _, _, _, _, _⟩) (v := ?_) rfl (by kernel_rfl) (fun _ _ _ h => h) (Or.inl ⟨by rfl, ?_⟩) (fun _ => hHeld) ?_
      rotate_left
      · intro w hSw
        (try dsimp only at hSw)
        go_simp
        try with_reducible rfl
      try simp only [Act.put, List.setIfInBounds_toArray, List.set_cons_zero, List.set_cons_succ]
      refine wpTill_take0 (i := 13) (oi := ⟨some 76, _, _, _, _, _⟩) (v := ?_) rfl (by kernel_rfl) (fun _ _ _ h => h) (Or.inl ⟨by rfl, ?_⟩) (fun _ => hHeld) ?_
      rotate_left
      · intro w hSw
        (try dsimp only at hSw)
        go_simp
        try with_reducible rfl
      try simp only [Act.put, List.setIfInBounds_toArray, List.set_cons_zero, List.set_cons_succ]
      refine wpTill_ready (rs := [14]) (by kernel_rfl) (by simp) ?_
      refine AllTill.consD (o := ⟨none, _, _, _, _, _⟩) rfl (by kernel_rfl) (fun K hK => ?_) AllTill.nil
      have e0 := cell_at HBK4.out 0
      have q0 := free_at HBK4.out 0
      go_simp
      refine hK.out _ _ ?_
      clear hK K
      try simp only [Act.put, List.setIfInBounds_toArray, List.set_cons_zero, List.set_cons_succ]
      refine wpTill_done (by kernel_rfl) ?_ _
      go_wp2_with fail
      go_end0
      exact ⟨rfl, HFIN.out⟩
end Go.Proofs.Ytkebjfaphmamjaa
