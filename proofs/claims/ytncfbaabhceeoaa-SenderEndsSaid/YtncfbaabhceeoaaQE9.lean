/- DERIVED. Walk of outbuf's Acked. -/
import Derived.Laws.Rows
import Derived.Laws.Tables
import Derived.Test.YtncfbaabhceeoaaQE6
import Derived.Test.YtncfbaabhceeoaaQE8
set_option linter.all false
namespace Go.Proofs.Ytncfbaabhceeoaa
open Go.RowKit

/-- Acknowledged: what becomes of it. -/
def OS.ackM (s : OS) (zs yz : List Rg) (f : Bool) : OS := { s with xs := zs, ys := yz, ea := s.ea || (f && s.es) }
def OS.ackG (s : OS) (zs yz : List Rg) (at_ : Nat) (f : Bool) : OS := { s with xs := zs, ys := yz, ea := s.ea || (f && s.es), base := at_ }
set_option maxRecDepth 100000 in
set_option maxHeartbeats 2000000 in
theorem oackG_any (b : Nat) (s : OS) (fp : Nat → Prop) (off : Nat) (n : Int) (zs : List Rg) (at_ : Nat) (w : World) (h : OAt w b s fp) (ho : off < 18446744073709551616) (hn : -9223372036854775808 ≤ n) (hn2 : n ≤ 9223372036854775807) (f : Bool) (yz : List Rg) (hyz : cutRaw (s.kn off n).1 (s.kn off n).2 s.ys = yz) (hly : yz.length ≤ 100000)
    (hzs : s.ackX (s.kn off n) = zs) (hnz : Norm zs) (hlz : zs.length ≤ 100000) (hat : atOf zs s.B.length = at_) (hat1 : s.base ≤ at_) (hat2 : at_ ≤ s.B.length) :
    Calls Try.prog 44 #[.pointer (some ⟨b, 0, none⟩), .int .u64 off, .int .i64 n, .bool f] w fun e w' => e = .returned (.tuple #[]) ∧ OM w w' fp b (s.ackG zs yz at_ f) := by
  obtain ⟨i0, hi0, hz0, hz1, hz2'⟩ := info_parts infoB
  have hlen := h.ok.len
  have hsl := h.ok.sent
  obtain ⟨from_, to_, hkn⟩ : ∃ f t, s.kn off n = (f, t) := ⟨_, _, rfl⟩
  have hto : to_ ≤ s.B.length ∧ from_ ≤ s.B.length := by
    unfold OS.kn at hkn
    simp only [Prod.mk.injEq] at hkn
    omega
  have H := Lib.hid h
  have HYZ := Lib.hid (show cutRaw from_ to_ s.ys = yz by rw [← hyz, hkn])
  have HNY := Lib.hid (show Norm yz by rw [← hyz]; exact cut_norm _ _ _ h.ok.ny)
  have HLY := Lib.hid hly
  have HKN := Lib.hid hkn
  have HZS := Lib.hid (show (if from_ < to_ ∧ to_ ≤ 4611686018427387904 then addL many s.xs from_ to_ else s.xs) = zs by
    rw [← hzs, hkn]
    unfold OS.ackX
    by_cases q : from_ < to_
    · rw [if_pos ⟨q, by omega⟩, if_pos q]
    · rw [if_neg (fun q2 => q q2.1), if_neg q])
  have HNZ := Lib.hid (And.intro hnz hlz)
  have HAT := Lib.hid (And.intro hat (And.intro hat1 hat2))
  clear h hyz hly hkn hzs hnz hlz hat hat1 hat2
  obtain ⟨hto1, hto2⟩ := hto
  go_enter Try.func44, Try.ntmps44
  go_wp2_with fail
  refine (oknown_q b s fp off n _ (by exact H.out) ho hn hn2).mono ?_
  rw [HKN.out]
  rintro e w1 ⟨rfl, q, rfl⟩
  have H1 := Lib.hid ((OM.refl H.out).drewN q)
  generalize w.drewN q = w1 at *
  obtain ⟨fp1, hoa, hw1⟩ := H1.out
  obtain ⟨vb, ob, c, oc, d, od, hO, hfp⟩ := hoa
  rw [hfp] at hw1
  have HO := Lib.hid hO
  have HW := Lib.hid hw1
  have c4 : w1.cell? ⟨b, 4, none⟩ = some (.pointer (some ⟨c, 0, none⟩)) := (cell_at hO.blk 4).trans rfl
  clear hO hfp hw1 H1
  go_wp2_with fail
  refine (add_any c many oc s.xs from_ to_ _ (by exact HO.out.sx) (by decide) (by decide) (by have := HO.out.ok.lx; omega)).mono ?_
  rw [HZS.out]
  rintro e w2 ⟨rfl, ht⟩
  have H2 := Lib.hid (om_turnC HO.out HW.out ht HNZ.out.1 HNZ.out.2)
  clear ht HO HW c4
  obtain ⟨fp2, hoa, hw2⟩ := H2.out
  obtain ⟨vb, ob, c, oc, d, od, hO, hfp⟩ := hoa
  rw [hfp] at hw2
  have HO := Lib.hid hO
  have HW := Lib.hid hw2
  have c5 : w2.cell? ⟨b, 5, none⟩ = some (.pointer (some ⟨d, 0, none⟩)) := (cell_at hO.blk 5).trans rfl
  clear hO hfp hw2 H2
  go_wp2_with fail
  refine (cut_any d many od s.ys from_ to_ _ (by exact HO.out.sy) (by decide) (by decide) (by omega) (by omega) HO.out.ok.ny (by have h9 : s.ys.length ≤ 100000 := HO.out.ok.ly; omega)).mono ?_
  rw [HYZ.out]
  rintro e w3 ⟨rfl, ht⟩
  rw [trim_all (by have := HLY.out; unfold many; omega)] at ht
  have hm3 := om_turnD HO.out HW.out ht HNY.out HLY.out
  have H3 := Lib.hid hm3
  clear ht HO HW c5 hm3
  go_upto_region 3 with fail
  go_cut [40] (fun v wx => v = .bool (f && s.es) ∧ wx = w3)
  case first =>
    obtain ⟨fp3, hoa, hw3⟩ := H3.out
    obtain ⟨vb, ob, c, oc, d, od, hO, hfp⟩ := hoa
    have e7 : w3.cell? ⟨b, 7, none⟩ = some (.bool s.es) := (cell_at hO.blk 7).trans rfl
    clear hO hfp hw3 H3
    cases f
    · go_wp2_with fail
      go_meet
      case rel => exact ⟨rfl, rfl⟩
    · go_wp2_with fail
      go_meet
      case rel => exact ⟨rfl, rfl⟩
  case rest =>
  obtain ⟨rfl, rfl⟩ := hcut
  generalize wc = w3 at *
  obtain ⟨q, hq⟩ : ∃ q, (f && s.es) = q := ⟨_, rfl⟩
  have HQ := Lib.hid hq
  rw [hq]
  clear hq
  go_upto_if 40 with fail
  go_cut [] (fun wx => OM w wx fp b (s.ackM zs yz f))
  case first =>
    obtain ⟨fp3, hoa, hw3⟩ := H3.out
    obtain ⟨vb, ob, c, oc, d, od, hO, hfp⟩ := hoa
    rw [hfp] at hw3
    have e8 : w3.cell? ⟨b, 8, none⟩ = some (.bool s.ea) := (cell_at hO.blk 8).trans rfl
    have q8 := free_at hO.blk 8
    have HM0 := Lib.hid (fun (hq : (s.ea || (f && s.es)) = s.ea) => show OM w w3 fp b (s.ackM zs yz f) from by
      unfold OS.ackM
      rw [hq]
      exact H3.out)
    have HM1 := Lib.hid (fun (hq : (s.ea || (f && s.es)) = true) => show OM w (w3.setCell ⟨b, 8, none⟩ (.bool true)) fp b (s.ackM zs yz f) from by
      unfold OS.ackM
      rw [hq]
      exact om_set (s' := { s with xs := zs, ys := yz, ea := true }) hO hw3 (Upd.refl _ _) ((Upd.refl (fun j => j = b) w3).setCell ⟨b, 8, none⟩ (.inl rfl) _) (set_at hO.blk 8 _) hO.row (.inl rfl) rfl rfl ⟨hO.ok.len, hO.ok.base, hO.ok.sent, hO.ok.nx, hO.ok.ny, hO.ok.lx, hO.ok.ly, hO.ok.bys⟩)
    clear hO hfp hw3 H3
    cases q
    · have HE := Lib.hid (show (s.ea || (f && s.es)) = s.ea by rw [HQ.out]; simp)
      clear HQ
      go_wp2_with fail
      go_meet
      case rel => exact HM0.out HE.out
    · have HE := Lib.hid (show (s.ea || (f && s.es)) = true by rw [HQ.out]; simp)
      clear HQ
      go_wp2_with fail
      go_meet
      case rel => exact HM1.out HE.out
  case rest =>
  have H3 := Lib.hid (show OM w wc fp b (s.ackM zs yz f) from hcut)
  clear hcut
  generalize wc = w3 at *
  obtain ⟨fp3, hoa, hw3⟩ := H3.out
  obtain ⟨vb, ob, c, oc, d, od, hO, hfp⟩ := hoa
  rw [hfp] at hw3
  have HO := Lib.hid hO
  have HW := Lib.hid hw3
  clear hO hfp hw3 H3
  obtain ⟨len, hln⟩ : ∃ len, s.B.length = len := ⟨_, rfl⟩
  have HLE := Lib.hid hln
  rw [hln] at hlen hsl hto1 hto2 HAT
  obtain ⟨lo, hi, ok, hga⟩ : ∃ lo hi ok, gapL zs 0 len = ((lo, hi), ok) := ⟨_, _, _, rfl⟩
  have HGA := Lib.hid hga
  have e2 : w3.cell? ⟨b, 2, none⟩ = some (.int .u64 len) := by rw [cell_at HO.out.blk, ← hln]; rfl
  have HSX := Lib.hid (show SetAt w3.drew c many oc zs from HO.out.sx.below (Below.refl _ _).drew)
  have HSof := Lib.hid (show ∀ W, Below w3.drew.heap.size w3.drew W → W.cell? ⟨b, 4, none⟩ = some (.pointer (some ⟨c, 0, none⟩)) ∧ W.cell? ⟨b, 2, none⟩ = some (.int .u64 len) from fun W h => by
    have hk := below_keeps h (show w3.drew.heap[b]? = _ from HO.out.blk) (heap_lt HO.out.blk)
    refine ⟨(cell_at hk 4).trans rfl, ?_⟩
    rw [cell_at hk, ← hln]
    rfl)
  have HNX := Lib.hid HNZ.out.1
  clear hln hga
  go_upto_region 6 with fail
  go_cut [11, 12] (fun v a wx => ∃ z, v = .pointer (some ⟨z, 0, none⟩) ∧ a = .bool ok ∧ wx.cell? ⟨z, 0, none⟩ = some (.int .u64 lo) ∧ Below w3.drew.heap.size w3.drew wx)
  case first =>
    go_wp2_with fail
    have hb : Below w3.drew.heap.size w3.drew w3.drew := Below.refl _ _
    refine wp_region_till (S := fun w' => w'.cell? ⟨b, 4, none⟩ = some (.pointer (some ⟨c, 0, none⟩)) ∧ w'.cell? ⟨b, 2, none⟩ = some (.int .u64 len)) [] (by kernel_rfl) (by exact HSof.out _ hb) (fun hHeld => ?_)
    refine wpTill_take0 (i := 0) (oi := ⟨some 49, _, _, _, _, _⟩) (v := ?_) rfl (by kernel_rfl) (fun _ _ _ h => h) (Or.inl ⟨by rfl, ?_⟩) (fun _ => hHeld) ?_
    rotate_left
    · intro w hSw
      (try dsimp only at hSw)
      go_simp
      try with_reducible rfl
    try simp only [Act.put, List.setIfInBounds_toArray, List.set_cons_zero, List.set_cons_succ]
    refine wpTill_take0 (i := 1) (oi := ⟨some 50, _, _, _, _, _⟩) (v := ?_) rfl (by kernel_rfl) (fun _ _ _ h => h) (Or.inl ⟨by rfl, ?_⟩) (fun _ => hHeld) ?_
    rotate_left
    · intro w hSw
      (try dsimp only at hSw)
      go_simp
      try with_reducible rfl
    try simp only [Act.put, List.setIfInBounds_toArray, List.set_cons_zero, List.set_cons_succ]
    refine wpTill_take0 (i := 2) (oi := ⟨some 51, _, _, _, _, _⟩) (v := ?_) rfl (by kernel_rfl) (fun _ _ _ h => h) (Or.inl ⟨by rfl, ?_⟩) (fun _ => hHeld) ?_
    rotate_left
    · intro w hSw
      (try dsimp only at hSw)
      go_simp
      try with_reducible rfl
    try simp only [Act.put, List.setIfInBounds_toArray, List.set_cons_zero, List.set_cons_succ]
    refine wpTill_take (i := 3) (oi := ⟨some 52, _, _, _, _, _⟩) (v := ?_) rfl (by kernel_rfl) (fun _ _ _ h => h) (Or.inl ⟨by rfl, ?_⟩) (by exact hHeld) ?_
    rotate_left
    · intro w hSw
      (try dsimp only at hSw)
      go_simp
      try with_reducible rfl
    try simp only [Act.put, List.setIfInBounds_toArray, List.set_cons_zero, List.set_cons_succ]
    refine wpTill_take0 (i := 4) (oi := ⟨some 53, _, _, _, _, _⟩) (v := ?_) rfl (by kernel_rfl) (fun _ _ _ h => h) (Or.inl ⟨by rfl, ?_⟩) (fun _ => hHeld) ?_
    rotate_left
    · intro w hSw
      (try dsimp only at hSw)
      go_simp
      try with_reducible rfl
    try simp only [Act.put, List.setIfInBounds_toArray, List.set_cons_zero, List.set_cons_succ]
    refine wpTill_take0 (i := 5) (oi := ⟨some 54, _, _, _, _, _⟩) (v := ?_) rfl (by kernel_rfl) (fun _ _ _ h => h) (Or.inl ⟨by rfl, ?_⟩) (fun _ => hHeld) ?_
    rotate_left
    · intro w hSw
      (try dsimp only at hSw)
      go_simp
      try with_reducible rfl
    try simp only [Act.put, List.setIfInBounds_toArray, List.set_cons_zero, List.set_cons_succ]
    refine wpTill_take0 (i := 6) (oi := ⟨some 55, _, _, _, _, _⟩) (v := ?_) rfl (by kernel_rfl) (fun _ _ _ h => h) (Or.inl ⟨by rfl, ?_⟩) (fun _ => hHeld) ?_
    rotate_left
    · intro w hSw
      (try dsimp only at hSw)
      go_simp
      try with_reducible rfl
    try simp only [Act.put, List.setIfInBounds_toArray, List.set_cons_zero, List.set_cons_succ]
    refine wpTill_take (i := 7) (oi := ⟨some 56, _, _, _, _, _⟩) (v := ?_) rfl (by kernel_rfl) (fun _ _ _ h => h) (Or.inl ⟨by rfl, ?_⟩) (by exact hHeld) ?_
    rotate_left
    · intro w hSw
      (try dsimp only at hSw)
      go_simp
      try with_reducible rfl
    try simp only [Act.put, List.setIfInBounds_toArray, List.set_cons_zero, List.set_cons_succ]
    refine wpTill_ready (rs := [8, 12]) (by kernel_rfl) (by simp) ?_
    refine AllTill.cons (o := ⟨some 57, _, _, _, _, _⟩) rfl (fun K hK => ?_) ?_
    · go_simp
      go_at_call 66
      refine (gap_any c many oc zs 0 len _ (by exact HSX.out.below hb) (by omega) (by omega) HNX.out).mono ?_
      rw [HGA.out]
      rintro e W8 ⟨rfl, hx8⟩
      have hb := below_call hb hb.size hx8
      go_wp2_with fail
      refine hK.out _ _ (by exact HSof.out _ hb) (fun hHeld => ?_)
      clear hK K
      try simp only [Act.put, List.setIfInBounds_toArray, List.set_cons_zero, List.set_cons_succ]
      refine wpTill_take0 (i := 9) (oi := ⟨some 48, _, _, _, _, _⟩) (v := ?_) rfl (by kernel_rfl) (fun _ _ _ h => h) (Or.inl ⟨by rfl, ?_⟩) (fun _ => hHeld) ?_
      rotate_left
      · intro w hSw
        (try dsimp only at hSw)
        go_simp
        try with_reducible rfl
      try simp only [Act.put, List.setIfInBounds_toArray, List.set_cons_zero, List.set_cons_succ]
      refine wpTill_take0 (i := 10) (oi := ⟨some 58, _, _, _, _, _⟩) (v := ?_) rfl (by kernel_rfl) (fun _ _ _ h => h) (Or.inl ⟨by rfl, ?_⟩) (fun _ => hHeld) ?_
      rotate_left
      · intro w hSw
        (try dsimp only at hSw)
        go_simp
        try with_reducible rfl
      try simp only [Act.put, List.setIfInBounds_toArray, List.set_cons_zero, List.set_cons_succ]
      refine wpTill_take0 (i := 11) (oi := ⟨some 59, _, _, _, _, _⟩) (v := ?_) rfl (by kernel_rfl) (fun _ _ _ h => h) (Or.inl ⟨by rfl, ?_⟩) (fun _ => hHeld) ?_
      rotate_left
      · intro w hSw
        (try dsimp only at hSw)
        go_simp
        try with_reducible rfl
      try simp only [Act.put, List.setIfInBounds_toArray, List.set_cons_zero, List.set_cons_succ]
      refine wpTill_ready (rs := [12]) (by kernel_rfl) (by simp) ?_
      refine AllTill.cons (o := ⟨some 11, _, _, _, _, _⟩) rfl (fun K hK => ?_) AllTill.nil
      go_simp
      have hb8 := hb
      have hb := hb.alloc hb.size (.cells #[.int .u64 0, .int .u64 0] 92)
      refine hK.out _ _ (by exact HSof.out _ hb) (fun hHeld => ?_)
      clear hK K
      try simp only [Act.put, List.setIfInBounds_toArray, List.set_cons_zero, List.set_cons_succ]
      refine wpTill_ready (rs := [13]) (by kernel_rfl) (by simp) ?_
      refine AllTill.cons (o := ⟨none, _, _, _, _, _⟩) rfl (fun K hK => ?_) AllTill.nil
      go_simp
      have hb := hb8.alloc hb8.size (.cells #[.int .u64 lo, .int .u64 hi] 92)
      have hzz := alloc_at W8 (.cells #[.int .u64 lo, .int .u64 hi] 92)
      refine hK.out _ _ (by exact HSof.out _ hb) (fun hHeld => ?_)
      clear hK K
      try simp only [Act.put, List.setIfInBounds_toArray, List.set_cons_zero, List.set_cons_succ]
      refine wpTill_ready (rs := [14]) (by kernel_rfl) (by simp) ?_
      refine AllTill.cons (o := ⟨some 12, _, _, _, _, _⟩) rfl (fun K hK => ?_) AllTill.nil
      go_simp
      refine hK.out _ _ (by exact HSof.out _ hb) (fun hHeld => ?_)
      clear hK K
      try simp only [Act.put, List.setIfInBounds_toArray, List.set_cons_zero, List.set_cons_succ]
      refine wpTill_done (by kernel_rfl) ?_ _
      go_wp2_with fail
      go_meet
      case rel => exact ⟨_, rfl, rfl, (cell_at hzz 0).trans rfl, hb⟩
    refine AllTill.cons (o := ⟨some 11, _, _, _, _, _⟩) rfl (fun K hK => ?_) ?_
    · go_simp
      have hzz : (w3.drew.alloc (.cells #[.int .u64 0, .int .u64 0] 92)).heap[w3.heap.size]? = some (.cells #[.int .u64 0, .int .u64 0] 92 (0, 0)) := alloc_at w3.drew _
      have hz12 : w3.drew.heap.size ≤ w3.heap.size := Nat.le_refl _
      have hb := hb.alloc hb.size (.cells #[.int .u64 0, .int .u64 0] 92)
      refine hK.out _ _ (by exact HSof.out _ hb) (fun hHeld => ?_)
      clear hK K
      try simp only [Act.put, List.setIfInBounds_toArray, List.set_cons_zero, List.set_cons_succ]
      refine wpTill_ready (rs := [8]) (by kernel_rfl) (by simp) ?_
      refine AllTill.cons (o := ⟨some 57, _, _, _, _, _⟩) rfl (fun K hK => ?_) AllTill.nil
      go_simp
      go_at_call 66
      refine (gap_any c many oc zs 0 len _ (by exact HSX.out.below hb) (by omega) (by omega) HNX.out).mono ?_
      rw [HGA.out]
      rintro e W8 ⟨rfl, hx8⟩
      have hb := below_call hb hb.size hx8
      have hzz := below_keeps hx8 hzz (heap_lt hzz)
      go_wp2_with fail
      refine hK.out _ _ (by exact HSof.out _ hb) (fun hHeld => ?_)
      clear hK K
      try simp only [Act.put, List.setIfInBounds_toArray, List.set_cons_zero, List.set_cons_succ]
      refine wpTill_take0 (i := 9) (oi := ⟨some 48, _, _, _, _, _⟩) (v := ?_) rfl (by kernel_rfl) (fun _ _ _ h => h) (Or.inl ⟨by rfl, ?_⟩) (fun _ => hHeld) ?_
      rotate_left
      · intro w hSw
        (try dsimp only at hSw)
        go_simp
        try with_reducible rfl
      try simp only [Act.put, List.setIfInBounds_toArray, List.set_cons_zero, List.set_cons_succ]
      refine wpTill_take0 (i := 10) (oi := ⟨some 58, _, _, _, _, _⟩) (v := ?_) rfl (by kernel_rfl) (fun _ _ _ h => h) (Or.inl ⟨by rfl, ?_⟩) (fun _ => hHeld) ?_
      rotate_left
      · intro w hSw
        (try dsimp only at hSw)
        go_simp
        try with_reducible rfl
      try simp only [Act.put, List.setIfInBounds_toArray, List.set_cons_zero, List.set_cons_succ]
      refine wpTill_take0 (i := 11) (oi := ⟨some 59, _, _, _, _, _⟩) (v := ?_) rfl (by kernel_rfl) (fun _ _ _ h => h) (Or.inl ⟨by rfl, ?_⟩) (fun _ => hHeld) ?_
      rotate_left
      · intro w hSw
        (try dsimp only at hSw)
        go_simp
        try with_reducible rfl
      try simp only [Act.put, List.setIfInBounds_toArray, List.set_cons_zero, List.set_cons_succ]
      refine wpTill_ready (rs := [13]) (by kernel_rfl) (by simp) ?_
      refine AllTill.cons (o := ⟨none, _, _, _, _, _⟩) rfl (fun K hK => ?_) AllTill.nil
      have z0 := cell_at hzz 0
      have z1 := cell_at hzz 1
      have y0 := free_at hzz 0
      have y1 := free_at hzz 1
      go_simp
      have hb := (hb.setCell (p := ⟨w3.heap.size, 0, none⟩) hz12 (.int .u64 lo)).setCell (p := ⟨w3.heap.size, 1, none⟩) hz12 (.int .u64 hi)
      have hzz := set_at (set_at hzz 0 (.int .u64 lo)) 1 (.int .u64 hi)
      refine hK.out _ _ (by exact HSof.out _ hb) (fun hHeld => ?_)
      clear hK K
      try simp only [Act.put, List.setIfInBounds_toArray, List.set_cons_zero, List.set_cons_succ]
      refine wpTill_ready (rs := [14]) (by kernel_rfl) (by simp) ?_
      refine AllTill.cons (o := ⟨some 12, _, _, _, _, _⟩) rfl (fun K hK => ?_) AllTill.nil
      go_simp
      refine hK.out _ _ (by exact HSof.out _ hb) (fun hHeld => ?_)
      clear hK K
      try simp only [Act.put, List.setIfInBounds_toArray, List.set_cons_zero, List.set_cons_succ]
      refine wpTill_done (by kernel_rfl) ?_ _
      go_wp2_with fail
      go_meet
      case rel => exact ⟨_, rfl, rfl, (cell_at hzz 0).trans rfl, hb⟩
    exact AllTill.nil
  case rest =>
    obtain ⟨z, rfl, rfl, hz0, hb4⟩ := hcut
    generalize wc = w4 at *
    have hb34 : Below w3.heap.size w3 w4 := below_call (Below.refl _ _).drew (Nat.le_refl _) hb4
    have HO4 := Lib.hid (HO.out.below hb34)
    have HW4 := Lib.hid (HW.out.later hb34)
    have hatv : (if ok then lo else len) = at_ := by
      have := HAT.out.1
      unfold atOf at this
      rw [HGA.out] at this
      exact this
    obtain ⟨_, hat1, hat2⟩ := HAT.out
    clear hb4 hb34 HSof HSX HO HW e2
    go_upto_if 60 with fail
    go_cut [10] (fun v wx => v = .int .u64 at_ ∧ wx = w4)
    case first =>
      cases ok
      · simp at hatv
        subst hatv
        go_wp2_with fail
        go_meet
        case rel => exact ⟨rfl, rfl⟩
      · simp at hatv
        subst hatv
        go_wp2_with fail
        go_meet
        case rel => exact ⟨rfl, rfl⟩
    case rest =>
      obtain ⟨rfl, rfl⟩ := hcut
      clear hatv hz0
      generalize wc = w4 at *
      obtain ⟨oB, cB, e0, hcB, hcB2⟩ := HO4.out.row.shape
      obtain ⟨base, hbase⟩ : ∃ base, s.base = base := ⟨_, rfl⟩
      have HBA := Lib.hid hbase
      obtain ⟨n0, hn0⟩ : ∃ n0, len - base = n0 := ⟨_, rfl⟩
      have hdl : (s.B.drop s.base).length = n0 := by rw [List.length_drop, HLE.out, hbase]; exact hn0
      rw [show (((s.ackM zs yz f).B.drop (s.ackM zs yz f).base)).length = n0 from hdl] at e0 hcB
      subst e0
      rw [hbase] at hat1
      obtain ⟨l, hl, hl2⟩ : ∃ l : Nat, (at_ : Int) - (base : Int) = (l : Int) ∧ at_ - base = l := ⟨at_ - base, by omega, rfl⟩
      have hln0 : l ≤ n0 := by omega
      have hwl : IntKind.u64.wrap (l : Int) = l := IntWalk.u64_in _ (by omega)
      have HBK4 := Lib.hid (show w4.drew.heap[b]? = some (.cells #[.slice oB n0 cB, .int .u64 base, .int .u64 s.B.length, .int .u64 s.sent, .pointer (some ⟨c, 0, none⟩), .pointer (some ⟨d, 0, none⟩), .bool s.fi, .bool s.es, .bool (s.ea || (f && s.es)), .bool s.el] 107 (0, 0)) from by
        rw [← hbase]
        exact HO4.out.blk)
      have HRT := Lib.hid (show ∃ og', SlO encB 1 5 w4.drew (tailV oB 1 n0 cB l) og' (s.B.drop at_) ∧ (og' = ob ∨ og' = none) from by
        obtain ⟨og', h1, h2⟩ := SlO.tail (HO4.out.row.below (Below.refl _ _).drew) hln0
        refine ⟨og', ?_, h2⟩
        have e : (s.B.drop s.base).drop l = s.B.drop at_ := by rw [List.drop_drop, hbase, show base + l = at_ by omega]
        rw [← e]
        exact h1)
      have HFIN := Lib.hid (show OM w ((w4.drew.setCell ⟨b, 0, none⟩ (tailV oB 1 n0 cB l)).setCell ⟨b, 1, none⟩ (.int .u64 (at_ : Nat))) fp b (s.ackG zs yz at_ f) from by
        obtain ⟨og', h1, h2⟩ := HRT.out
        have ho := HO4.out.ok
        refine om_set (s' := s.ackG zs yz at_ f) (HO4.out.below (Below.refl _ _).drew) (HW4.out.later (Below.refl _ _).drew) (Upd.refl _ _) (((Upd.refl (fun j => j = b) w4.drew).setCell ⟨b, 0, none⟩ (.inl rfl) _).setCell ⟨b, 1, none⟩ (.inl rfl) _) (set_at (set_at HBK4.out 0 (tailV oB 1 n0 cB l)) 1 (.int .u64 (at_ : Nat))) h1 (h2.imp id .inl) rfl rfl ⟨ho.len, by show at_ ≤ s.B.length; rw [HLE.out]; exact hat2, ho.sent, ho.nx, ho.ny, ho.lx, ho.ly, ho.bys⟩)
      obtain ⟨oT, hT⟩ : ∃ oT, tailV oB 1 n0 cB l = .slice oT (n0 - l) (cB - l) := ⟨_, rfl⟩
      rw [hT] at HFIN
      have HTT := Lib.hid hT
      have e1 : w4.cell? ⟨b, 1, none⟩ = some (.int .u64 base) := (cell_at (show w4.heap[b]? = _ from HBK4.out) 1).trans rfl
      have q1 : w4.frozen? ⟨b, 1, none⟩ = false := free_at (show w4.heap[b]? = _ from HBK4.out) 1
      clear hdl hn0 hl2 hat1 hat2 hbase hT HRT
      go_wp2_with fail
      refine wp_region_till (S := fun w' => w'.cell? ⟨b, 0, none⟩ = some (.slice oB n0 cB) ∧ w'.cell? ⟨b, 1, none⟩ = some (.int .u64 base)) [14] (by kernel_rfl) (by exact ⟨(cell_at HBK4.out 0).trans rfl, (cell_at HBK4.out 1).trans rfl⟩) (fun hHeld => ?_)
      refine wpTill_take0 (i := 0) (oi := ⟨some 63, _, _, _, _, _⟩) (v := ?_) rfl (by kernel_rfl) (fun _ _ _ h => h) (Or.inl ⟨by rfl, ?_⟩) (fun _ => hHeld) ?_
      rotate_left
      · intro w hSw
        (try dsimp only at hSw)
        go_simp
        try with_reducible rfl
      try simp only [Act.put, List.setIfInBounds_toArray, List.set_cons_zero, List.set_cons_succ]
      refine wpTill_take0 (i := 1) (oi := ⟨some 64, _, _, _, _, _⟩) (v := ?_) rfl (by kernel_rfl) (fun _ _ _ h => h) (Or.inl ⟨by rfl, ?_⟩) (fun _ => hHeld) ?_
      rotate_left
      · intro w hSw
        (try dsimp only at hSw)
        go_simp
        try with_reducible rfl
      try simp only [Act.put, List.setIfInBounds_toArray, List.set_cons_zero, List.set_cons_succ]
      refine wpTill_take0 (i := 2) (oi := ⟨some 65, _, _, _, _, _⟩) (v := ?_) rfl (by kernel_rfl) (fun _ _ _ h => h) (Or.inl ⟨by rfl, ?_⟩) (fun _ => hHeld) ?_
      rotate_left
      · intro w hSw
        (try dsimp only at hSw)
        go_simp
        try with_reducible rfl
      try simp only [Act.put, List.setIfInBounds_toArray, List.set_cons_zero, List.set_cons_succ]
      refine wpTill_take0 (i := 3) (oi := ⟨some 66, _, _, _, _, _⟩) (v := ?_) rfl (by kernel_rfl) (fun _ _ _ h => h) (Or.inl ⟨by rfl, ?_⟩) (fun _ => hHeld) ?_
      rotate_left
      · intro w hSw
        (try dsimp only at hSw)
        go_simp
        try with_reducible rfl
      try simp only [Act.put, List.setIfInBounds_toArray, List.set_cons_zero, List.set_cons_succ]
      refine wpTill_take (i := 4) (oi := ⟨some 67, _, _, _, _, _⟩) (v := ?_) rfl (by kernel_rfl) (fun _ _ _ h => h) (Or.inl ⟨by rfl, ?_⟩) (by exact hHeld) ?_
      rotate_left
      · intro w hSw
        (try dsimp only at hSw)
        go_simp
        try with_reducible rfl
      try simp only [Act.put, List.setIfInBounds_toArray, List.set_cons_zero, List.set_cons_succ]
      refine wpTill_take0 (i := 5) (oi := ⟨some 68, _, _, _, _, _⟩) (v := ?_) rfl (by kernel_rfl) (fun _ _ _ h => h) (Or.inl ⟨by rfl, ?_⟩) (fun _ => hHeld) ?_
      rotate_left
      · intro w hSw
        (try dsimp only at hSw)
        go_simp
        try with_reducible rfl
      try simp only [Act.put, List.setIfInBounds_toArray, List.set_cons_zero, List.set_cons_succ]
      refine wpTill_take0 (i := 6) (oi := ⟨some 69, _, _, _, _, _⟩) (v := ?_) rfl (by kernel_rfl) (fun _ _ _ h => h) (Or.inl ⟨by rfl, ?_⟩) (fun _ => hHeld) ?_
      rotate_left
      · intro w hSw
        (try dsimp only at hSw)
        go_simp
        try with_reducible rfl
      try simp only [Act.put, List.setIfInBounds_toArray, List.set_cons_zero, List.set_cons_succ]
      refine wpTill_take0 (i := 7) (oi := ⟨some 70, _, _, _, _, _⟩) (v := ?_) rfl (by kernel_rfl) (fun _ _ _ h => h) (Or.inl ⟨by rfl, ?_⟩) (fun _ => hHeld) ?_
      rotate_left
      · intro w hSw
        (try dsimp only at hSw)
        go_simp
        try with_reducible rfl
      try simp only [Act.put, List.setIfInBounds_toArray, List.set_cons_zero, List.set_cons_succ]
      refine wpTill_take0 (i := 8) (oi := ⟨some 71, _, _, _, _, _⟩) (v := ?_) rfl (by kernel_rfl) (fun _ _ _ h => h) (Or.inl ⟨by rfl, ?_⟩) (fun _ => hHeld) ?_
      rotate_left
      · intro w hSw
        (try dsimp only at hSw)
        go_simp
        try with_reducible rfl
      try simp only [Act.put, List.setIfInBounds_toArray, List.set_cons_zero, List.set_cons_succ]
      refine wpTill_take (i := 9) (oi := ⟨some 72, _, _, _, _, _⟩) (v := ?_) rfl (by kernel_rfl) (fun _ _ _ h => h) (Or.inl ⟨by rfl, ?_⟩) (by exact hHeld) ?_
      rotate_left
      · intro w hSw
        (try dsimp only at hSw)
        go_simp
        try with_reducible rfl
      try simp only [Act.put, List.setIfInBounds_toArray, List.set_cons_zero, List.set_cons_succ]
      refine wpTill_take0 (i := 10) (oi := ⟨some 73, _, _, _, _, _⟩) (v := ?_) rfl (by kernel_rfl) (fun _ _ _ h => h) (Or.inl ⟨by rfl, ?_⟩) (fun _ => hHeld) ?_
      rotate_left
      · intro w hSw
        (try dsimp only at hSw)
        go_simp
        try with_reducible rfl
      try simp only [Act.put, List.setIfInBounds_toArray, List.set_cons_zero, List.set_cons_succ]
      refine wpTill_take0 (i := 11) (oi := ⟨some 74, _, _, _, _, _⟩) (v := .slice oT (n0 - l) (cB - l)) rfl (by kernel_rfl) (fun _ _ _ h => h) (Or.inl ⟨by rfl, ?_⟩) (fun _ => hHeld) ?_
      · intro w hSw
        refine Eq.trans (exec_tailK Try.underlying36 hi0 rfl rfl rfl hln0 hcB) ?_
        rw [hz1, HTT.out]
      try simp only [Act.put, List.setIfInBounds_toArray, List.set_cons_zero, List.set_cons_succ]
      refine wpTill_take0 (i := 12) (oi := ⟨some 75, _, _, _, _, _⟩) (v := ?_) rfl (by kernel_rfl) (fun _ _ _ h => h) (Or.inl ⟨by rfl, ?_⟩) (fun _ => hHeld) ?_
      rotate_left
      · intro w hSw
        (try dsimp only at hSw)
        go_simp
        try with_reducible rfl
      try simp only [Act.put, List.setIfInBounds_toArray, List.set_cons_zero, List.set_cons_succ]
      refine wpTill_take0 (i := 13) (oi := ⟨some 76, _, _, _, _, _⟩) (v := ?_) rfl (by kernel_rfl) (fun _ _ _ h => h) (Or.inl ⟨by rfl, ?_⟩) (fun _ => hHeld) ?_
      rotate_left
      · intro w hSw
        (try dsimp only at hSw)
        go_simp
        try with_reducible rfl
      try simp only [Act.put, List.setIfInBounds_toArray, List.set_cons_zero, List.set_cons_succ]
      refine wpTill_ready (rs := [14]) (by kernel_rfl) (by simp) ?_
      refine AllTill.consD (o := ⟨none, _, _, _, _, _⟩) rfl (by kernel_rfl) (fun K hK => ?_) AllTill.nil
      have e0 := cell_at HBK4.out 0
      have q0 := free_at HBK4.out 0
      go_simp
      refine hK.out _ _ ?_
      clear hK K
      try simp only [Act.put, List.setIfInBounds_toArray, List.set_cons_zero, List.set_cons_succ]
      refine wpTill_done (by kernel_rfl) ?_ _
      go_wp2_with fail
      go_end0
      exact ⟨rfl, HFIN.out⟩
end Go.Proofs.Ytncfbaabhceeoaa

/- DERIVED. Plain laws: counting the numbers of a list of ranges; gaps. -/
namespace Go.Proofs.Ytncfbaabhceeoaa
open Go.RowKit

/-- How many numbers below n are such. -/
def cnt (p : Nat → Bool) : Nat → Nat
  | 0 => 0
  | n + 1 => cnt p n + if p n then 1 else 0
theorem cnt_or {p q : Nat → Bool} : ∀ n, (∀ k, k < n → p k = true → q k = false) → cnt (fun k => p k || q k) n = cnt p n + cnt q n
  | 0, _ => rfl
  | n + 1, h => by
    simp only [cnt]
    rw [cnt_or n (fun k hk => h k (by omega))]
    have h1 := h n (by omega)
    have key : ∀ a b : Bool, (a = true → b = false) → (if (a || b) = true then 1 else 0) = (if a = true then 1 else 0) + (if b = true then 1 else 0) := by decide
    rw [key _ _ h1]
    omega
theorem cnt_eq {p q : Nat → Bool} : ∀ n, (∀ k, k < n → p k = q k) → cnt p n = cnt q n
  | 0, _ => rfl
  | n + 1, h => by simp only [cnt]; rw [cnt_eq n (fun k hk => h k (by omega)), h n (by omega)]
theorem cnt_rg (r : Rg) (h : r.1 < r.2) : ∀ n, cnt (fun k => hasP k r) n = min n r.2 - min n r.1
  | 0 => by simp [cnt]
  | n + 1 => by
    simp only [cnt]
    rw [cnt_rg r h n]
    simp only [hasP, Bool.and_eq_true, decide_eq_true_eq]
    split <;> omega
def mem (xs : List Rg) (k : Nat) : Bool := xs.any (hasP k)
theorem mem_lo {xs : List Rg} (_hn : Norm xs) {a : Nat} (h : ∀ r ∈ xs, a < r.1) {k : Nat} (hk : k ≤ a) : mem xs k = false := by
  unfold mem
  rw [List.any_eq_false]
  intro r hr
  have := h r hr
  simp [hasP]
  omega
theorem cntL_cnt (a : Nat) : ∀ xs : List Rg, Norm xs → (∀ r ∈ xs, r.2 ≤ a) → cntL xs = cnt (mem xs) a
  | [], _, _ => by
    have : ∀ n, cnt (mem []) n = 0 := by
      intro n
      induction n with
      | zero => rfl
      | succ n ih => simp [cnt, ih, mem]
    rw [this]
    rfl
  | r :: xs, hn, ha => by
    obtain ⟨⟨h1, h2⟩, h3⟩ := hn.head
    have e : cnt (mem (r :: xs)) a = cnt (fun k => hasP k r || mem xs k) a := cnt_eq a (fun k _ => by simp [mem])
    rw [e, cnt_or a (fun k _ hk => by
      simp [hasP] at hk
      exact mem_lo hn.tail h3 (by omega)), ← cntL_cnt a xs hn.tail (fun x hx => ha x (List.mem_cons_of_mem _ hx)), cnt_rg r h1]
    have := ha r (List.mem_cons_self ..)
    have e2 : cntL (r :: xs) = r.2 - r.1 + cntL xs := by simp [cntL]
    rw [e2]
    omega
theorem cnt_all {p : Nat → Bool} {a : Nat} : ∀ d, (∀ k, a ≤ k → k < a + d → p k = true) → cnt p (a + d) = cnt p a + d
  | 0, _ => rfl
  | d + 1, h => by
    rw [← Nat.add_assoc, cnt, cnt_all d (fun k h1 h2 => h k h1 (by omega)), h (a + d) (by omega) (by omega)]
    simp
    omega
theorem cnt_none {p : Nat → Bool} {a : Nat} : ∀ d, (∀ k, a ≤ k → k < a + d → p k = false) → cnt p (a + d) = cnt p a
  | 0, _ => rfl
  | d + 1, h => by
    rw [← Nat.add_assoc, cnt, cnt_none d (fun k h1 h2 => h k h1 (by omega)), h (a + d) (by omega) (by omega)]
    simp

/-- What a gap is. -/
theorem gapF_facts (t : Nat) : ∀ (xs : List Rg) (f : Nat), Norm xs → f ≤ (gapF xs f t).1 ∧ (gapF xs f t).2 ≤ t ∧
    (∀ k, f ≤ k → k < (gapF xs f t).1 → mem xs k = true) ∧ (∀ k, (gapF xs f t).1 ≤ k → k < (gapF xs f t).2 → mem xs k = false)
  | [], f, _ => ⟨Nat.le_refl _, Nat.le_refl _, fun k h1 h2 => by simp [gapF] at h2; omega, fun k _ _ => rfl⟩
  | r :: xs, f, hn => by
    obtain ⟨⟨h1, h2⟩, h3⟩ := hn.head
    unfold gapF
    by_cases c1 : r.2 ≤ f
    · rw [if_pos c1]
      obtain ⟨i1, i2, i3, i4⟩ := gapF_facts t xs f hn.tail
      refine ⟨i1, i2, fun k a b => ?_, fun k a b => ?_⟩
      · have := i3 k a b
        simp [mem] at this ⊢
        exact .inr this
      · have := i4 k a b
        unfold mem at *
        rw [List.any_cons, this]
        simp [hasP]
        omega
    · rw [if_neg c1]
      by_cases c2 : f < r.1
      · rw [if_pos c2]
        refine ⟨Nat.le_refl _, Nat.min_le_left _ _, fun k a b => by simp only at b; omega, fun k a b => ?_⟩
        simp only at a b
        have := mem_lo hn.tail (a := r.2) h3 (k := k) (by omega)
        unfold mem at *
        rw [List.any_cons, this]
        simp [hasP]
        omega
      · rw [if_neg c2]
        obtain ⟨i1, i2, i3, i4⟩ := gapF_facts t xs r.2 hn.tail
        refine ⟨by omega, i2, fun k a b => ?_, fun k a b => ?_⟩
        · by_cases hk : k < r.2
          · simp [mem, hasP]
            left
            omega
          · have := i3 k (by omega) b
            simp [mem] at this ⊢
            exact .inr this
        · have := i4 k a b
          unfold mem at *
          rw [List.any_cons, this]
          simp [hasP]
          omega
theorem gap_step {xs : List Rg} {f t : Nat} {r : Rg} (hn : Norm xs) (h : gapL xs f t = (r, true)) :
    f ≤ r.1 ∧ r.1 < r.2 ∧ r.2 ≤ t ∧ (∀ k, r.1 ≤ k → k < r.2 → xs.any (hasP k) = false) ∧ cnt (mem xs) r.2 = cnt (mem xs) f + (r.1 - f) := by
  obtain ⟨i1, i2, i3, i4⟩ := gapF_facts t xs f hn
  unfold gapL at h
  split at h
  · simp at h
  · rename_i c
    have h' : gapF xs f t = r := congrArg Prod.fst h
    rw [h'] at i1 i2 i3 i4 c
    refine ⟨i1, by omega, i2, i4, ?_⟩
    have e1 : r.2 = r.1 + (r.2 - r.1) := by omega
    have e2 : r.1 = f + (r.1 - f) := by omega
    have e3 := cnt_none (p := mem xs) (a := r.1) (r.2 - r.1) (fun k a b => i4 k a (by omega))
    have e4 := cnt_all (p := mem xs) (a := f) (r.1 - f) (fun k a b => i3 k a (by omega))
    rw [← e1] at e3
    rw [← e2] at e4
    omega
theorem gap_end {xs : List Rg} {f t : Nat} {g : Rg} (hn : Norm xs) (hf : f ≤ t) (ht : ∀ r ∈ xs, r.2 ≤ t) (h : gapL xs f t = (g, false)) : cntL xs = cnt (mem xs) f + (t - f) := by
  obtain ⟨i1, i2, i3, i4⟩ := gapF_facts t xs f hn
  obtain ⟨_, _, j3⟩ := gapF_is t xs f hn
  unfold gapL at h
  split at h
  · rename_i c
    have hle := j3.1 c
    rw [cntL_cnt t xs hn ht, show t = f + (t - f) from by omega, cnt_all _ (fun k a b => i3 k a (by omega))]
    omega
  · simp at h
end Go.Proofs.Ytncfbaabhceeoaa

/- DERIVED. Plain: what OutbufCovers asks: pieces that go, are lost, are acknowledged. -/
namespace Go.Proofs.Ytncfbaabhceeoaa
open Go.RowKit

theorem mem_of {xs : List Rg} {r : Rg} (h : r ∈ xs) {j : Nat} (h1 : r.1 ≤ j) (h2 : j < r.2) : mem xs j = true := by
  unfold mem
  rw [List.any_eq_true]
  exact ⟨r, h, by simp [hasP, h1, h2]⟩
theorem len_from : ∀ (xs : List Rg) (a m : Nat), Norm xs → (∀ r ∈ xs, a ≤ r.1) → (∀ r ∈ xs, r.2 ≤ m) → xs.length ≤ m - a
  | [], _, _, _, _, _ => by simp
  | r :: xs, a, m, hn, h1, h2 => by
    obtain ⟨⟨h3, h4⟩, h5⟩ := hn.head
    have ha := h1 r (List.mem_cons_self ..)
    have hm := h2 r (List.mem_cons_self ..)
    have := len_from xs r.2 m hn.tail (fun x hx => by have := h5 x hx; omega) (fun x hx => h2 x (List.mem_cons_of_mem _ hx))
    rw [List.length_cons]
    omega
theorem mem_top {xs : List Rg} {m : Nat} (hn : Norm xs) (h : ∀ j, mem xs j = true → j < m) : ∀ r ∈ xs, r.2 ≤ m := by
  intro r hr
  have h1 := hn.1 r hr
  have := h (r.2 - 1) (mem_of hr (by omega) (by omega))
  omega
theorem len_mem {xs : List Rg} {m : Nat} (hn : Norm xs) (h : ∀ j, mem xs j = true → j < m) : xs.length ≤ m := by
  have := len_from xs 0 m hn (fun _ _ => Nat.zero_le _) (mem_top hn h)
  omega
theorem at_facts {xs : List Rg} {n : Nat} (hn : Norm xs) : atOf xs n ≤ n ∧ (∀ k, k < atOf xs n → mem xs k = true) ∧ (atOf xs n < n → mem xs (atOf xs n) = false) := by
  obtain ⟨i1, i2, i3, i4⟩ := gapF_facts n xs 0 hn
  obtain ⟨_, _, j3⟩ := gapF_is n xs 0 hn
  unfold atOf gapL
  by_cases h : (gapF xs 0 n).2 ≤ (gapF xs 0 n).1
  · rw [if_pos h]
    have h2 := j3.1 h
    refine ⟨Nat.le_refl _, fun k hk => ?_, fun hk => absurd hk (Nat.lt_irrefl _)⟩
    have hk : k < n := hk
    exact i3 k (Nat.zero_le _) (by omega)
  · rw [if_neg h]
    have h' : (gapF xs 0 n).1 < (gapF xs 0 n).2 := by omega
    refine ⟨?_, fun k hk => i3 k (Nat.zero_le _) hk, fun _ => i4 _ (Nat.le_refl _) h'⟩
    show (gapF xs 0 n).1 ≤ n
    omega
theorem at_mono {xs zs : List Rg} {n : Nat} (hx : Norm xs) (hz : Norm zs) (h : ∀ k, mem xs k = true → mem zs k = true) : atOf xs n ≤ atOf zs n := by
  obtain ⟨a1, a2, a3⟩ := at_facts (n := n) hx
  obtain ⟨b1, b2, b3⟩ := at_facts (n := n) hz
  rcases Nat.lt_or_ge (atOf zs n) (atOf xs n) with h1 | h1
  · have h2 := h _ (a2 _ h1)
    have h3 := b3 (by omega)
    rw [h2] at h3
    cases h3
  · exact h1
theorem at_all {xs : List Rg} {n : Nat} (hx : Norm xs) (h : ∀ k, k < n → mem xs k = true) : atOf xs n = n := by
  obtain ⟨a1, a2, a3⟩ := at_facts (n := n) hx
  rcases Nat.lt_or_ge (atOf xs n) n with h1 | h1
  · have h2 := h _ h1
    rw [a3 h1] at h2
    cases h2
  · omega
set_option maxRecDepth 100000 in
theorem addL_facts {xs : List Rg} {f t : Nat} (hn : Norm xs) (hft : f < t) (ht : t ≤ 1000000) (hl : xs.length ≤ 90000) :
    Norm (addL many xs f t) ∧ (addL many xs f t).length ≤ xs.length + 1 ∧ ∀ j, mem (addL many xs f t) j = (mem xs j || decide (f ≤ j ∧ j < t)) := by
  have e : addL many xs f t = addN xs (f, t) := by
    unfold addL
    rw [addRaw_is hft xs hn]
    exact trim_all (by have := addN_len xs (f, t); unfold many; omega)
  rw [e]
  refine ⟨addN_norm xs _ hft (by omega) hn, addN_len xs _, fun j => ?_⟩
  show (addN xs (f, t)).any (hasP j) = _
  rw [any_addN j xs _ hft hn, Bool.or_comm]
  have e2 : hasP j (f, t) = decide (f ≤ j ∧ j < t) := by simp [hasP]
  rw [e2]
  rfl
theorem cutRaw_facts {xs : List Rg} {f t : Nat} (hn : Norm xs) (hft : f ≤ t) : ∀ j, mem (cutRaw f t xs) j = (mem xs j && !decide (f ≤ j ∧ j < t)) := by
  intro j
  rcases Nat.lt_or_ge f t with h | h
  · show (cutRaw f t xs).any (hasP j) = _
    rw [any_cut j f t h xs hn]
    simp [hasP, mem]
  · rw [cut_none h]
    have : ¬ (f ≤ j ∧ j < t) := by omega
    simp [this]
/-- What becomes of what is lost, number by number. -/
theorem lostY_facts {s : OS} {y0 : List Rg} (hx : Norm s.xs) (hy : Norm y0) : ∀ k, k ≤ s.xs.length → Norm (lostY s y0 k) ∧ ∀ j, mem (lostY s y0 k) j = (mem y0 j && !mem (s.xs.take k) j) := by
  intro k
  induction k with
  | zero => intro _; exact ⟨hy, fun j => by simp [lostY, mem]⟩
  | succ k ih =>
    intro hk
    obtain ⟨h1, h2⟩ := ih (by omega)
    obtain ⟨r, hr⟩ : ∃ r, s.xs[k]? = some r := ⟨_, List.getElem?_eq_getElem (by omega)⟩
    have hrb := hx.1 r (List.mem_of_getElem? hr)
    rw [lostY_succ hr]
    refine ⟨cut_norm _ _ _ h1, fun j => ?_⟩
    rw [cutRaw_facts h1 (by omega), h2]
    have e : mem (s.xs.take (k + 1)) j = (mem (s.xs.take k) j || hasP j r) := take_any hr
    rw [e]
    have e2 : hasP j r = decide (r.1 ≤ j ∧ j < r.2) := by simp [hasP]
    rw [e2]
    cases mem y0 j <;> cases mem (s.xs.take k) j <;> simp

/-- Between two rounds. -/
structure CI (s : OS) (n : Nat) (wt : List Bool) (e : Bool) : Prop where
  ok : s.Ok
  len : s.B.length = n
  n200 : n ≤ 200
  fi : s.fi = true
  wl : wt.length = n
  wv : ∀ j, j < n → wt[j]? = some (mem s.xs j)
  xb : ∀ j, mem s.xs j = true → j < s.sent
  yb : ∀ j, mem s.ys j = true → j < s.sent ∧ mem s.xs j = false
  cov : ∀ j, j < s.sent → mem s.xs j = true ∨ mem s.ys j = true
  base : s.base = atOf s.xs n
  ea : s.ea = e
  es : s.es = true → s.ea = true ∨ s.el = true
/-- A piece, or the end, is under way. -/
structure CM (s : OS) (n : Nat) (wt : List Bool) (e : Bool) (f t : Nat) (fin : Bool) : Prop where
  ok : s.Ok
  len : s.B.length = n
  n200 : n ≤ 200
  fi : s.fi = true
  wl : wt.length = n
  wv : ∀ j, j < n → wt[j]? = some (mem s.xs j)
  xb : ∀ j, mem s.xs j = true → j < s.sent
  yb : ∀ j, mem s.ys j = true → j < s.sent ∧ mem s.xs j = false
  cov : ∀ j, j < s.sent → (f ≤ j ∧ j < t) ∨ mem s.xs j = true ∨ mem s.ys j = true
  base : s.base = atOf s.xs n
  ea : s.ea = e
  es : s.es = true → s.ea = true ∨ s.el = true ∨ fin = true
  ft : f ≤ t
  ts : t ≤ s.sent
  pc : ∀ j, f ≤ j → j < t → mem s.xs j = false ∧ mem s.ys j = false
  fn : fin = true → s.es = true ∧ s.ea = false ∧ t = n
  go : f < t ∨ fin = true
theorem CI.ny {s : OS} {n : Nat} {wt : List Bool} {e : Bool} (h : CI s n wt e) : s.ys.length ≤ 200 := by
  have := len_mem h.ok.ny (fun j hj => (h.yb j hj).1)
  have := h.ok.sent
  have := h.len
  have := h.n200
  omega
theorem CI.base_le {s : OS} {n : Nat} {wt : List Bool} {e : Bool} (h : CI s n wt e) {f : Nat} (hf : mem s.xs f = false) : s.base ≤ f := by
  obtain ⟨a1, a2, a3⟩ := at_facts (n := n) h.ok.nx
  rw [h.base]
  rcases Nat.lt_or_ge f (atOf s.xs n) with h1 | h1
  · rw [a2 f h1] at hf
    cases hf
  · exact h1
theorem ende_of {s : OS} (hfi : s.fi = true) (hes : s.es = true → s.ea = true ∨ s.el = true) : s.ende = !s.ea := by
  unfold OS.ende
  rw [hfi]
  cases h1 : s.ea <;> cases h2 : s.es <;> cases h3 : s.el <;> simp
  have := hes h2
  rw [h1, h3] at this
  simp at this
theorem CI.part {s : OS} {n : Nat} {wt : List Bool} {e : Bool} (h : CI s n wt e) :
    (∃ r rest, s.ys = r :: rest ∧ s.part 1000 = (r.1, r.2) ∧ r.1 < r.2 ∧ r.2 ≤ s.sent) ∨ (s.ys = [] ∧ s.part 1000 = (s.sent, n)) := by
  have hl := h.len
  have hs := h.ok.sent
  have hn := h.n200
  cases hy : s.ys with
  | nil =>
    refine .inr ⟨rfl, ?_⟩
    unfold OS.part
    rw [hy]
    show (s.sent, max s.sent (min 1000 s.B.length)) = _
    rw [show max s.sent (min 1000 s.B.length) = n by omega]
  | cons r rest =>
    refine .inl ⟨r, rest, rfl, ?_, ?_, ?_⟩
    · unfold OS.part
      rw [hy]
    · exact (h.ok.ny.1 r (by rw [hy]; exact List.mem_cons_self ..)).1
    · exact mem_top h.ok.ny (fun j hj => (h.yb j hj).1) r (by rw [hy]; exact List.mem_cons_self ..)
theorem bool_not {b : Bool} (h : ¬ b = true) : b = false := by cases b <;> simp_all
theorem CI.goes {s : OS} {n : Nat} {wt : List Bool} {e : Bool} (h : CI s n wt e) {f t : Nat} (hft : f < t) (htn : t ≤ n) (hfs : f ≤ s.sent) (hx : ∀ j, f ≤ j → j < t → mem s.xs j = false) (hy : ∀ j, f ≤ j → j < t → j < s.sent → mem s.ys j = true) :
    CM (s.went f t) n wt e f t (decide (t = s.B.length) && s.ende) := by
  have hc := cutRaw_facts (f := f) (t := t) h.ok.ny (by omega)
  have hcn := cut_norm f t _ h.ok.ny
  have hmx : (s.went f t).sent = max s.sent t := rfl
  have hexs : (s.went f t).xs = s.xs := rfl
  have heys : (s.went f t).ys = cutRaw f t s.ys := rfl
  have hlen := h.len
  have hos := h.ok.sent
  have hyb : ∀ j, mem (s.went f t).ys j = true → j < s.sent ∧ mem s.xs j = false := by
    intro j hj
    rw [heys, hc] at hj
    simp only [Bool.and_eq_true] at hj
    exact h.yb j hj.1
  have hyl := len_mem (xs := cutRaw f t s.ys) hcn (m := s.sent) (fun j hj => (hyb j hj).1)
  have hn := h.n200
  have hende := ende_of h.fi h.es
  refine { ok := ⟨h.ok.len, h.ok.base, by rw [hmx]; show _ ≤ s.B.length; omega, h.ok.nx, hcn, h.ok.lx, by show (cutRaw f t s.ys).length ≤ _; omega, h.ok.bys⟩, len := h.len, n200 := h.n200, fi := h.fi, wl := h.wl, wv := h.wv, xb := ?_, yb := ?_, cov := ?_, base := h.base, ea := h.ea, es := ?_, ft := by omega, ts := by rw [hmx]; omega, pc := ?_, fn := ?_, go := .inl hft }
  · intro j hj
    have := h.xb j hj
    rw [hmx]
    omega
  · intro j hj
    obtain ⟨h1, h2⟩ := hyb j hj
    rw [hmx]
    exact ⟨by omega, h2⟩
  · intro j hj
    rw [hmx] at hj
    by_cases h1 : f ≤ j ∧ j < t
    · exact .inl h1
    · have h2 : j < s.sent := by omega
      rcases h.cov j h2 with h3 | h3
      · exact .inr (.inl h3)
      · refine .inr (.inr ?_)
        rw [heys, hc, h3]
        simp [h1]
  · intro hes
    show s.ea = true ∨ (s.el && !(decide (t = s.B.length) && s.ende)) = true ∨ _
    have hes2 : (s.es || (decide (t = s.B.length) && s.ende)) = true := hes
    cases hq : (decide (t = s.B.length) && s.ende)
    · rw [hq] at hes2
      rcases h.es (by simpa using hes2) with h1 | h1
      · exact .inl h1
      · exact .inr (.inl (by simp [h1]))
    · exact .inr (.inr rfl)
  · intro j h1 h2
    refine ⟨hx j h1 h2, ?_⟩
    rw [heys, hc]
    simp [h1, h2]
  · intro hq
    refine ⟨?_, ?_, ?_⟩
    · show (s.es || (decide (t = s.B.length) && s.ende)) = true
      rw [hq]
      simp
    · show s.ea = false
      simp only [Bool.and_eq_true] at hq
      rw [hende] at hq
      simpa using hq.2
    · simp only [Bool.and_eq_true, decide_eq_true_eq] at hq
      omega
/-- What Next does between two rounds. -/
theorem CI.next {s : OS} {n : Nat} {wt : List Bool} {e : Bool} (h : CI s n wt e) {k : Nat} (hk : 1 ≤ k) :
    (∃ f t0 t, s.part 1000 = (f, t0) ∧ s.base ≤ f ∧ f < t ∧ min t0 (f + k) = t ∧ t ≤ n ∧ t0 ≤ 1099511627776 ∧ (cutRaw f t s.ys).length ≤ 100000 ∧ CM (s.went f t) n wt e f t (decide (t = s.B.length) && s.ende)) ∨
    (s.ys = [] ∧ s.sent = n ∧ s.ende = true ∧ CM { s with es := true, el := false } n wt e n n true) ∨
    (s.ys = [] ∧ s.sent = n ∧ s.ende = false) := by
  have hl := h.len
  have hs := h.ok.sent
  have hn := h.n200
  have hyl := h.ny
  have hcl : ∀ f t, (cutRaw f t s.ys).length ≤ 100000 := fun f t => by have := cut_le f t _ h.ok.ny; omega
  rcases h.part with ⟨r, rest, hy, hp, h1, h2⟩ | ⟨hy, hp⟩
  · left
    have hr : r ∈ s.ys := by rw [hy]; exact List.mem_cons_self ..
    refine ⟨r.1, r.2, min r.2 (r.1 + k), hp, h.base_le (h.yb r.1 (mem_of hr (Nat.le_refl _) h1)).2, by omega, rfl, by omega, by omega, hcl _ _, ?_⟩
    exact h.goes (by omega) (by omega) (by omega) (fun j q1 q2 => (h.yb j (mem_of hr q1 (by omega))).2) (fun j q1 q2 _ => mem_of hr q1 (by omega))
  · by_cases hsn : s.sent < n
    · left
      refine ⟨s.sent, n, min n (s.sent + k), hp, h.base_le (bool_not (fun q => by have := h.xb _ q; omega)), by omega, rfl, by omega, by omega, hcl _ _, ?_⟩
      exact h.goes (by omega) (by omega) (Nat.le_refl _) (fun j q1 q2 => bool_not (fun q => by have := h.xb _ q; omega)) (fun j q1 q2 q3 => by omega)
    · have hsn : s.sent = n := by omega
      right
      have hende := ende_of h.fi h.es
      cases he : s.ende with
      | false => exact .inr ⟨hy, hsn, rfl⟩
      | true =>
        refine .inl ⟨hy, hsn, rfl, ?_⟩
        exact { ok := ⟨h.ok.len, h.ok.base, h.ok.sent, h.ok.nx, h.ok.ny, h.ok.lx, h.ok.ly, h.ok.bys⟩, len := h.len, n200 := h.n200, fi := h.fi, wl := h.wl, wv := h.wv, xb := h.xb, yb := h.yb, cov := fun j hj => .inr (h.cov j hj), base := h.base, ea := h.ea, es := fun _ => .inr (.inr rfl), ft := Nat.le_refl _, ts := by show n ≤ s.sent; omega, pc := fun j q1 q2 => by omega, fn := fun _ => ⟨rfl, by show s.ea = false; rw [he] at hende; cases hq : s.ea <;> simp_all, rfl⟩, go := .inr rfl }
theorem CM.kn {s : OS} {n : Nat} {wt : List Bool} {e : Bool} {f t : Nat} {fin : Bool} (h : CM s n wt e f t fin) : s.kn f ((t - f : Nat) : Int) = (f, t) := by
  have := h.ft
  have := h.ts
  unfold OS.kn
  simp only [Prod.mk.injEq, Int.toNat_natCast]
  omega
theorem CM.xl {s : OS} {n : Nat} {wt : List Bool} {e : Bool} {f t : Nat} {fin : Bool} (h : CM s n wt e f t fin) : s.xs.length ≤ 200 ∧ s.ys.length ≤ 200 := by
  have h1 := len_mem h.ok.nx h.xb
  have h2 := len_mem h.ok.ny (fun j hj => (h.yb j hj).1)
  have := h.ok.sent
  have := h.len
  have := h.n200
  omega
/-- It is lost. -/
theorem CM.lost {s : OS} {n : Nat} {wt : List Bool} {e : Bool} {f t : Nat} {fin : Bool} (h : CM s n wt e f t fin) :
    Norm (s.lostB (s.kn f ((t - f : Nat) : Int))) ∧ (s.lostB (s.kn f ((t - f : Nat) : Int))).length + s.xs.length ≤ 100000 ∧
    CI { s with ys := lostY s (s.lostB (s.kn f ((t - f : Nat) : Int))) s.xs.length, el := s.el || (fin && s.es) } n wt e := by
  rw [h.kn]
  obtain ⟨l1, l2⟩ := h.xl
  have hs := h.ok.sent
  have hl := h.len
  have hn := h.n200
  have hft := h.ft
  have hts := h.ts
  obtain ⟨a1, a2, a3⟩ : Norm (s.lostB (f, t)) ∧ (s.lostB (f, t)).length ≤ s.ys.length + 1 ∧ ∀ j, mem (s.lostB (f, t)) j = (mem s.ys j || decide (f ≤ j ∧ j < t)) := by
    unfold OS.lostB
    by_cases q : f < t
    · rw [if_pos q]
      exact addL_facts h.ok.ny q (by omega) (by omega)
    · rw [if_neg q]
      refine ⟨h.ok.ny, by omega, fun j => ?_⟩
      have : ¬ (f ≤ j ∧ j < t) := by omega
      simp [this]
  obtain ⟨b1, b2⟩ := lostY_facts h.ok.nx a1 s.xs.length (Nat.le_refl _)
  rw [List.take_length] at b2
  have hmy : ∀ j, mem (lostY s (s.lostB (f, t)) s.xs.length) j = ((mem s.ys j || decide (f ≤ j ∧ j < t)) && !mem s.xs j) := fun j => by rw [b2, a3]
  have hyb : ∀ j, mem (lostY s (s.lostB (f, t)) s.xs.length) j = true → j < s.sent ∧ mem s.xs j = false := by
    intro j hj
    rw [hmy] at hj
    simp only [Bool.and_eq_true, Bool.or_eq_true, decide_eq_true_eq, Bool.not_eq_true'] at hj
    refine ⟨?_, hj.2⟩
    rcases hj.1 with h1 | h1
    · exact (h.yb j h1).1
    · omega
  have hyl := len_mem b1 (fun j hj => (hyb j hj).1)
  refine ⟨a1, by omega, { ok := ⟨h.ok.len, h.ok.base, h.ok.sent, h.ok.nx, b1, h.ok.lx, by show (lostY s (s.lostB (f, t)) s.xs.length).length ≤ _; omega, h.ok.bys⟩, len := h.len, n200 := h.n200, fi := h.fi, wl := h.wl, wv := h.wv, xb := h.xb, yb := hyb, cov := ?_, base := h.base, ea := h.ea, es := ?_ }⟩
  · intro j hj
    show mem s.xs j = true ∨ mem (lostY s (s.lostB (f, t)) s.xs.length) j = true
    rw [hmy]
    cases hq : mem s.xs j
    · right
      rcases h.cov j hj with h1 | h1 | h1
      · simp [h1]
      · rw [hq] at h1
        cases h1
      · simp [h1]
    · exact .inl rfl
  · intro hes
    have hes : s.es = true := hes
    show s.ea = true ∨ (s.el || (fin && s.es)) = true
    rcases h.es hes with h1 | h1 | h1
    · exact .inl h1
    · exact .inr (by simp [h1])
    · exact .inr (by simp [h1, hes])
/-- The flags of what went, m of them from f on. -/
def setT (wt : List Bool) (f : Nat) : Nat → List Bool
  | 0 => wt
  | m + 1 => (setT wt f m).set (f + m) true
theorem setT_len (wt : List Bool) (f : Nat) : ∀ m, (setT wt f m).length = wt.length
  | 0 => rfl
  | m + 1 => by rw [setT, List.length_set, setT_len wt f m]
theorem setT_at (wt : List Bool) (f : Nat) : ∀ m j, j < wt.length → (setT wt f m)[j]? = if f ≤ j ∧ j < f + m then some true else wt[j]?
  | 0, j, _ => by rw [if_neg (by omega)]; rfl
  | m + 1, j, hj => by
    rw [setT, List.getElem?_set]
    by_cases h : f + m = j
    · rw [if_pos h, if_pos (by rw [setT_len]; omega), if_pos (by omega)]
    · rw [if_neg h, setT_at wt f m j hj]
      by_cases h2 : f ≤ j ∧ j < f + m
      · rw [if_pos h2, if_pos (by omega)]
      · rw [if_neg h2, if_neg (by omega)]
/-- How much is left to be acknowledged. -/
def lft (s : OS) (n : Nat) : Nat := n - cnt (mem s.xs) n + if s.ea then 0 else 1
theorem cnt_le (p : Nat → Bool) : ∀ n, cnt p n ≤ n
  | 0 => Nat.le_refl _
  | n + 1 => by have := cnt_le p n; simp only [cnt]; split <;> omega
theorem cnt_mono {p q : Nat → Bool} (h : ∀ k, p k = true → q k = true) : ∀ n, cnt p n ≤ cnt q n
  | 0 => Nat.le_refl _
  | n + 1 => by
    have := cnt_mono h n
    simp only [cnt]
    cases hp : p n
    · simp; omega
    · rw [h n hp]; simp; omega
theorem cnt_more {p q : Nat → Bool} (h : ∀ k, p k = true → q k = true) {f : Nat} (h1 : p f = false) (h2 : q f = true) : ∀ n, f < n → cnt p n + 1 ≤ cnt q n
  | 0, hf => by omega
  | n + 1, hf => by
    simp only [cnt]
    by_cases hfn : f = n
    · subst hfn
      have := cnt_mono h f
      rw [h1, h2]
      simp
      omega
    · have := cnt_more h h1 h2 n (by omega)
      cases hp : p n
      · simp; omega
      · rw [h n hp]; simp; omega
/-- It is acknowledged. -/
theorem CM.acked {s : OS} {n : Nat} {wt : List Bool} {e : Bool} {f t : Nat} {fin : Bool} (h : CM s n wt e f t fin) :
    ∃ zs yz at_, s.ackX (s.kn f ((t - f : Nat) : Int)) = zs ∧ Norm zs ∧ zs.length ≤ 100000 ∧ cutRaw (s.kn f ((t - f : Nat) : Int)).1 (s.kn f ((t - f : Nat) : Int)).2 s.ys = yz ∧ yz.length ≤ 100000 ∧ atOf zs s.B.length = at_ ∧ s.base ≤ at_ ∧ at_ ≤ s.B.length ∧
      CI (s.ackG zs yz at_ fin) n (setT wt f (t - f)) (e || fin) ∧ lft (s.ackG zs yz at_ fin) n + 1 ≤ lft s n := by
  rw [h.kn]
  obtain ⟨l1, l2⟩ := h.xl
  have hs := h.ok.sent
  have hl := h.len
  have hn := h.n200
  have hft := h.ft
  have hts := h.ts
  obtain ⟨a1, a2, a3⟩ : Norm (s.ackX (f, t)) ∧ (s.ackX (f, t)).length ≤ s.xs.length + 1 ∧ ∀ j, mem (s.ackX (f, t)) j = (mem s.xs j || decide (f ≤ j ∧ j < t)) := by
    unfold OS.ackX
    by_cases q : f < t
    · rw [if_pos q]
      exact addL_facts h.ok.nx q (by omega) (by omega)
    · rw [if_neg q]
      refine ⟨h.ok.nx, by omega, fun j => ?_⟩
      have : ¬ (f ≤ j ∧ j < t) := by omega
      simp [this]
  obtain ⟨zs, hz⟩ : ∃ zs, s.ackX (f, t) = zs := ⟨_, rfl⟩
  rw [hz] at a1 a2 a3
  have hcn := cut_norm f t _ h.ok.ny
  have hc := cutRaw_facts (f := f) (t := t) h.ok.ny hft
  have hcl := cut_le f t _ h.ok.ny
  have hup : ∀ k, mem s.xs k = true → mem zs k = true := fun k hk => by rw [a3, hk]; rfl
  obtain ⟨q1, q2, q3⟩ := at_facts (n := n) a1
  have hee : ∀ j, mem zs j = true → j < s.sent := by
    intro j hj
    rw [a3] at hj
    simp only [Bool.or_eq_true, decide_eq_true_eq] at hj
    rcases hj with h1 | h1
    · exact h.xb j h1
    · omega
  refine ⟨zs, cutRaw f t s.ys, atOf zs n, hz, a1, by omega, rfl, by omega, by rw [hl], by rw [h.base]; exact at_mono h.ok.nx a1 hup, by omega, ?_, ?_⟩
  · refine { ok := ⟨h.ok.len, by show atOf zs n ≤ s.B.length; omega, h.ok.sent, a1, hcn, by show zs.length ≤ _; omega, by show (cutRaw f t s.ys).length ≤ _; omega, h.ok.bys⟩, len := h.len, n200 := h.n200, fi := h.fi, wl := by rw [setT_len]; exact h.wl, wv := ?_, xb := hee, yb := ?_, cov := ?_, base := rfl, ea := ?_, es := ?_ }
    · intro j hj
      rw [setT_at wt f _ j (by rw [h.wl]; exact hj), show f + (t - f) = t by omega]
      show _ = some (mem zs j)
      rw [a3, h.wv j hj]
      by_cases q : f ≤ j ∧ j < t
      · rw [if_pos q]
        simp [q]
      · rw [if_neg q]
        simp [q]
    · intro j hj
      have hj : mem (cutRaw f t s.ys) j = true := hj
      rw [hc] at hj
      simp only [Bool.and_eq_true, Bool.not_eq_true', decide_eq_false_iff_not] at hj
      obtain ⟨h1, h2⟩ := h.yb j hj.1
      refine ⟨h1, ?_⟩
      show mem zs j = false
      rw [a3, h2]
      simp [hj.2]
    · intro j hj
      show mem zs j = true ∨ mem (cutRaw f t s.ys) j = true
      rw [a3, hc]
      rcases h.cov j hj with h1 | h1 | h1
      · left; simp [h1]
      · left; simp [h1]
      · by_cases q : f ≤ j ∧ j < t
        · left; simp [q]
        · right; simp [q, h1]
    · show (s.ea || (fin && s.es)) = (e || fin)
      rw [h.ea]
      cases hf : fin
      · simp
      · simp [(h.fn hf).1]
    · intro hes
      have hes : s.es = true := hes
      show (s.ea || (fin && s.es)) = true ∨ s.el = true
      rcases h.es hes with h1 | h1 | h1
      · left; simp [h1]
      · right; exact h1
      · left; simp [h1, hes]
  · show n - cnt (mem zs) n + (if (s.ea || (fin && s.es)) then 0 else 1) + 1 ≤ n - cnt (mem s.xs) n + if s.ea then 0 else 1
    have c1 := cnt_mono hup n
    have c2 := cnt_le (mem zs) n
    rcases h.go with hg | hg
    · have c3 := cnt_more hup (h.pc f (Nat.le_refl _) hg).1 (show mem zs f = true by rw [a3]; simp [hg]) n (by omega)
      cases hq : s.ea
      · simp
        split <;> omega
      · simp
        omega
    · obtain ⟨e1, e2, _⟩ := h.fn hg
      rw [e1, e2, hg]
      simp
      omega
/-- At the end. -/
theorem CI.done {s : OS} {n : Nat} {wt : List Bool} {e : Bool} (h : CI s n wt e) (hy : s.ys = []) (hsn : s.sent = n) (he : s.ende = false) :
    e = true ∧ (∀ j, j < n → wt[j]? = some true) ∧ (s.fi && s.ea && decide (s.base = s.B.length)) = true ∧ s.waits 1000 = false := by
  have hl := h.len
  have hn := h.n200
  have hall : ∀ j, j < n → mem s.xs j = true := by
    intro j hj
    rcases h.cov j (by omega) with h1 | h1
    · exact h1
    · rw [hy] at h1
      simp [mem] at h1
  have hende := ende_of h.fi h.es
  rw [he] at hende
  have hea : s.ea = true := by
    cases hq : s.ea with
    | true => rfl
    | false =>
      rw [hq] at hende
      cases hende
  refine ⟨by rw [← h.ea]; exact hea, fun j hj => by rw [h.wv j hj, hall j hj], ?_, ?_⟩
  · rw [h.fi, hea, h.base, at_all h.ok.nx hall, hl]
    simp
  · unfold OS.waits
    rw [he]
    unfold OS.part
    rw [hy]
    show (decide (s.sent < max s.sent (min 1000 s.B.length)) || _) = false
    have : ¬ s.sent < max s.sent (min 1000 s.B.length) := by omega
    rw [decide_eq_false this, Bool.and_false]
    rfl
theorem CI.lft_le {s : OS} {n : Nat} {wt : List Bool} {e : Bool} (h : CI s n wt e) : lft s n ≤ 201 := by
  have := h.n200
  unfold lft
  split <;> omega
/-- At the start: all is written, and Finish was said. -/
theorem CI.start {A : List Nat} {n : Nat} (h : A.length = n) (hn : n ≤ 200) (hb : Bys A) : CI { OS.zero with B := A, fi := true } n (List.replicate n false) false := by
  have h0 : (OS.zero : OS).xs = [] := rfl
  refine { ok := ⟨by show A.length ≤ _; omega, by show 0 ≤ _; omega, by show 0 ≤ _; omega, ⟨by simp [OS.zero], by simp [OS.zero]⟩, ⟨by simp [OS.zero], by simp [OS.zero]⟩, by simp [OS.zero], by simp [OS.zero], hb⟩, len := h, n200 := hn, fi := rfl, wl := List.length_replicate, wv := ?_, xb := ?_, yb := ?_, cov := ?_, base := ?_, ea := rfl, es := ?_ }
  · intro j hj
    rw [List.getElem?_replicate, if_pos hj]
    rfl
  · intro j hj
    simp [OS.zero, mem] at hj
  · intro j hj
    simp [OS.zero, mem] at hj
  · intro j hj
    simp [OS.zero] at hj
  · show 0 = atOf [] n
    unfold atOf gapL gapF
    by_cases q : n = 0
    · subst q
      rfl
    · simp [q]
  · intro hj
    simp [OS.zero] at hj
end Go.Proofs.Ytncfbaabhceeoaa

/- DERIVED. Frames as values. -/
namespace Go.Proofs.Ytncfbaabhceeoaa
open Go.RowKit

structure Fr where
  kd : Int
  sid : Nat
  off : Nat
  vd : Value
  fin : Bool
  lim : Nat
  code : Nat
  fnl : Nat
  seq : Nat
  dly : Nat
  vr : Value
  c0 : Nat
  c1 : Nat
  c2 : Nat
  c3 : Nat
  c4 : Nat
  c5 : Nat
  c6 : Nat
  c7 : Nat
def encF (f : Fr) : List Value := [.int .i64 f.kd, .int .u64 f.sid, .int .u64 f.off, f.vd, .bool f.fin, .int .u64 f.lim, .int .u64 f.code, .int .u64 f.fnl, .int .u64 f.seq, .int .u64 f.dly, f.vr,
  .int .u8 f.c0, .int .u8 f.c1, .int .u8 f.c2, .int .u8 f.c3, .int .u8 f.c4, .int .u8 f.c5, .int .u8 f.c6, .int .u8 f.c7]
theorem encF_len (f : Fr) : (encF f).length = 19 := rfl
structure FrOk (f : Fr) : Prop where
  kd : -9223372036854775808 ≤ f.kd ∧ f.kd ≤ 9223372036854775807
  sid : f.sid < 18446744073709551616
  off : f.off < 18446744073709551616
  lim : f.lim < 18446744073709551616
  code : f.code < 18446744073709551616
  fnl : f.fnl < 18446744073709551616
theorem sizeF : (Try.prog.info? 39).map (·.size) = some 19 := by kernel_rfl
def zeroF : Fr := ⟨0, 0, 0, .slice none 0 0, false, 0, 0, 0, 0, 0, .slice none 0 0, 0, 0, 0, 0, 0, 0, 0, 0⟩
theorem results_row_tmp {P : Program} {fn : Func} {p u : Tmp} {ty : TypeId} (h : fn.results = #[.cell p ty, .tmp u]) (tmps : Array Value) (w : World) (g : Nat) (t : TypeId) (cs : Array Value) (fr : Nat × Nat) (d : TypeDesc)
    (hp : tmps.getD p undef = .pointer (some ⟨g, 0, none⟩)) (hg : w.heap[g]? = some (.cells cs t fr))
    (hu : P.underlying ty = some d) (hd : (match d with | .struct _ | .array _ _ => true | _ => false) = true) (hi : (P.info? ty).map (·.size) = some cs.size) :
    (results fn tmps).run P w = .ok (.tuple #[.agg cs, tmps.getD u undef]) w := by
  have hp' : tmps[p]?.getD undef = .pointer (some ⟨g, 0, none⟩) := by simpa using hp
  simp [results, h, hp', asAddr, run_loadVar_row w g t ty cs fr d hg hu hd hi]
theorem Upd.setRowN {F : Nat → Prop} {a w : World} (h : Upd F a w) (y : Nat) (hy : F y ∨ a.heap.size ≤ y) (cs : Array Value) : Upd F a (w.setRow y cs) :=
  ⟨h.os, h.tape, h.output, by simpa using h.size, fun k hk q => (setRow_other w y k cs (fun e => by
    subst e
    rcases hy with hy | hy
    · exact q hy
    · omega)).trans (h.block k hk q)⟩
end Go.Proofs.Ytncfbaabhceeoaa
