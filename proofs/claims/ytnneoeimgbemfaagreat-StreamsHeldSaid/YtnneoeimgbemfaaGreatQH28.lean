/- DERIVED. Walk of receiver's Next (printed by mkrnext.py). -/
import Derived.Deep.RegionLaw
import Derived.Test.YtnneoeimgbemfaaGreatQH3
import Derived.Test.YtnneoeimgbemfaaGreatQH18
import Derived.Test.YtnneoeimgbemfaaGreatQH22
set_option linter.all false
namespace Go.Proofs.YtnneoeimgbemfaaGreat
open Go.RowKit

set_option maxRecDepth 100000 in
set_option maxHeartbeats 4000000 in
theorem rnext_max (r : Nat) (s : RS) (fp : Nat → Prop) (room : Int) (w : World) (h : RAt w r s fp) (hns : ¬ (s.so = true ∧ s.st ≤ 2)) (hr1 : -9223372036854775808 ≤ room) (hr2 : room ≤ 9223372036854775807) :
    Calls Tryz.prog 25 #[.pointer (some ⟨r, 0, none⟩), .int .i64 room] w fun e w' => e = .returned (.tuple #[.agg (encF (s.nx room).2.1).toArray, .bool (s.nx room).2.2]) ∧ RM w w' fp r (s.nx room).1 := by
  have hok := h.ok
  have hidb := hok.id
  have hwin := hok.win
  have hst := hok.st
  have hlim := hok.lim
  obtain ⟨d0, d1, d2, d3, _, _⟩ := h.cells
  obtain ⟨b, fb, h0, hfp⟩ := h
  have d27 : w.cell? ⟨r, 27, none⟩ = some (.bool s.so) := (cell_at h0.blk 27).trans rfl
  have d28 : w.cell? ⟨r, 28, none⟩ = some (.bool s.ag) := (cell_at h0.blk 28).trans rfl
  have htk : s.taken ≤ 1099511640000 := by
    unfold RS.taken
    split
    · exact hok.fnl
    · have := h0.buf.bd.1
      omega
  have H := Lib.hid (show RAt w r s fp from ⟨b, fb, h0, hfp⟩)
  obtain ⟨F, hF⟩ : ∃ F, s.nx room = F := ⟨_, rfl⟩
  have hF2 : (if s.st ≠ 1 ∨ s.due = false ∨ room < size17 (maxF s.id s.top) ∨ size17 (maxF s.id s.top) = 0 then (s, zeroF, false) else ({ s with lim := max s.lim s.top, ag := false }, maxF s.id s.top, true)) = F := by
    rw [← hF, RS.nx, if_neg hns]
  rw [hF]
  have HF := Lib.hid hF2
  have H0 := Lib.hid h0
  have HFP := Lib.hid hfp
  clear hF hF2 h0 hfp hok
  obtain ⟨id, hid⟩ : ∃ id, s.id = id := ⟨_, rfl⟩
  obtain ⟨win, hwn⟩ : ∃ win, s.win = win := ⟨_, rfl⟩
  obtain ⟨tk, htke⟩ : ∃ tk, s.taken = tk := ⟨_, rfl⟩
  obtain ⟨top, htop⟩ : ∃ top : Nat, tk + win = top := ⟨_, rfl⟩
  obtain ⟨st, hste⟩ : ∃ st, s.st = st := ⟨_, rfl⟩
  obtain ⟨so, hso⟩ : ∃ so, s.so = so := ⟨_, rfl⟩
  have hwt : IntKind.u64.wrap (top : Int) = top := IntWalk.u64_in _ (by omega)
  have htopi : (tk : Int) + (win : Int) = (top : Int) := by omega
  have HID := Lib.hid (And.intro hid (And.intro hwn (And.intro htke (And.intro htop hste))))
  rw [hid] at d0 hidb
  rw [hwn] at d1 hwin
  rw [hste] at d2 hst hns
  rw [htke] at htk
  rw [hso] at d27 hns
  have HTK := Lib.hid htke
  have D := Lib.hid (And.intro d0 (And.intro d1 (And.intro d2 (And.intro d3 (And.intro d27 d28)))))
  clear hid hwn htke htop hste hso d0 d1 d2 d3 d27 d28
  go_enter Tryz.func25, Tryz.ntmps25
  go_upto_region 0 with fail
  go_cut [4] (fun v wx => ∃ y, v = .pointer (some ⟨y, 0, none⟩) ∧ w.heap.size ≤ y ∧ Below w.heap.size w wx ∧ wx.heap[y]? = some (.cells #[.int .i64 0, .int .u64 0, .int .u64 0, .slice none 0 0, .bool false, .int .u64 0, .int .u64 0, .int .u64 0, .int .u64 0, .int .u64 0, .slice none 0 0,
    .int .u8 0, .int .u8 0, .int .u8 0, .int .u8 0, .int .u8 0, .int .u8 0, .int .u8 0, .int .u8 0] 46 (0, 0)))
  case first =>
    go_wp2_with fail
    go_meet
    case rel => exact ⟨_, rfl, Nat.le_refl _, (Below.refl _ _).alloc (Nat.le_refl _) _, alloc_at _ _⟩
  case rest =>
    obtain ⟨y, rfl, hy, hb1, hky⟩ := hcut
    generalize wc = w1 at *
    have HKY := Lib.hid hky
    have H1 := Lib.hid (H.out.below hb1)
    have HB1 := Lib.hid hb1
    have HY := Lib.hid hy
    have hrw := H.out.lt.2 r H.out.lt.1
    have e27 := cell_keep hb1 hrw D.out.2.2.2.2.1
    have e2 := cell_keep hb1 hrw D.out.2.2.1
    clear hb1 hky hy
    go_upto_region 1 with fail
    go_cut [18] (fun v wx => v = .bool false ∧ wx = w1)
    case first =>
      cases so
      · go_wp2_with fail
        go_meet
        case rel => exact ⟨rfl, rfl⟩
      · have hst2 : ¬ (st : Int) ≤ 2 := fun x => hns ⟨rfl, by omega⟩
        go_wp2_with fail
        go_meet
        case rel => exact ⟨rfl, rfl⟩
    case rest =>
      obtain ⟨rfl, rfl⟩ := hcut
      clear e27 e2
      go_upto_region 6 with fail
      go_cut [6] (fun v wx => ∃ z, v = .pointer (some ⟨z, 0, none⟩) ∧ wc.heap.size ≤ z ∧ Below wc.heap.size wc wx ∧ wx.heap[z]? = some (.cells #[.int .i64 17, .int .u64 id, .int .u64 0, .slice none 0 0, .bool false, .int .u64 top, .int .u64 0, .int .u64 0, .int .u64 0, .int .u64 0, .slice none 0 0,
    .int .u8 0, .int .u8 0, .int .u8 0, .int .u8 0, .int .u8 0, .int .u8 0, .int .u8 0, .int .u8 0] 46 (0, 0)))
      case first =>
        have HSof := Lib.hid (show ∀ W, Below wc.heap.size wc W → W.cell? ⟨r, 0, none⟩ = some (.int .u64 id) ∧ W.cell? ⟨r, 1, none⟩ = some (.int .u64 win) from fun W hb => by
          have hr1 := H1.out.lt.2 r H1.out.lt.1
          exact ⟨cell_keep hb hr1 (cell_keep HB1.out hrw D.out.1), cell_keep hb hr1 (cell_keep HB1.out hrw D.out.2.1)⟩)
        go_wp2_with fail
        refine wp_region_till (S := fun w' => w'.cell? ⟨r, 0, none⟩ = some (.int .u64 id) ∧ w'.cell? ⟨r, 1, none⟩ = some (.int .u64 win)) [] (by kernel_rfl) (by exact HSof.out _ ((Below.refl _ _).drew)) (fun hHeld => ?_)
        refine wpTill_take0 (i := 0) (oi := ⟨some 34, _, _, _, _, _⟩) (v := ?_) rfl (by kernel_rfl) (fun _ _ _ h => h) (Or.inl ⟨by rfl, ?_⟩) (fun _ => hHeld) ?_
        rotate_left
        · intro w hSw
          (try dsimp only at hSw)
          go_simp
          try with_reducible rfl
        try simp only [Act.put, List.setIfInBounds_toArray, List.set_cons_zero, List.set_cons_succ]
        refine wpTill_take0 (i := 1) (oi := ⟨some 35, _, _, _, _, _⟩) (v := ?_) rfl (by kernel_rfl) (fun _ _ _ h => h) (Or.inl ⟨by rfl, ?_⟩) (fun _ => hHeld) ?_
        rotate_left
        · intro w hSw
          (try dsimp only at hSw)
          go_simp
          try with_reducible rfl
        try simp only [Act.put, List.setIfInBounds_toArray, List.set_cons_zero, List.set_cons_succ]
        refine wpTill_take0 (i := 2) (oi := ⟨some 36, _, _, _, _, _⟩) (v := ?_) rfl (by kernel_rfl) (fun _ _ _ h => h) (Or.inl ⟨by rfl, ?_⟩) (fun _ => hHeld) ?_
        rotate_left
        · intro w hSw
          (try dsimp only at hSw)
          go_simp
          try with_reducible rfl
        try simp only [Act.put, List.setIfInBounds_toArray, List.set_cons_zero, List.set_cons_succ]
        refine wpTill_take (i := 3) (oi := ⟨some 37, _, _, _, _, _⟩) (v := ?_) rfl (by kernel_rfl) (fun _ _ _ h => h) (Or.inl ⟨by rfl, ?_⟩) (by exact hHeld) ?_
        rotate_left
        · intro w hSw
          (try dsimp only at hSw)
          go_simp
          try with_reducible rfl
        try simp only [Act.put, List.setIfInBounds_toArray, List.set_cons_zero, List.set_cons_succ]
        refine wpTill_take0 (i := 4) (oi := ⟨some 38, _, _, _, _, _⟩) (v := ?_) rfl (by kernel_rfl) (fun _ _ _ h => h) (Or.inl ⟨by rfl, ?_⟩) (fun _ => hHeld) ?_
        rotate_left
        · intro w hSw
          (try dsimp only at hSw)
          go_simp
          try with_reducible rfl
        try simp only [Act.put, List.setIfInBounds_toArray, List.set_cons_zero, List.set_cons_succ]
        refine wpTill_take0 (i := 6) (oi := ⟨some 40, _, _, _, _, _⟩) (v := ?_) rfl (by kernel_rfl) (fun _ _ _ h => h) (Or.inl ⟨by rfl, ?_⟩) (fun _ => hHeld) ?_
        rotate_left
        · intro w hSw
          (try dsimp only at hSw)
          go_simp
          try with_reducible rfl
        try simp only [Act.put, List.setIfInBounds_toArray, List.set_cons_zero, List.set_cons_succ]
        refine wpTill_take0 (i := 7) (oi := ⟨some 41, _, _, _, _, _⟩) (v := ?_) rfl (by kernel_rfl) (fun _ _ _ h => h) (Or.inl ⟨by rfl, ?_⟩) (fun _ => hHeld) ?_
        rotate_left
        · intro w hSw
          (try dsimp only at hSw)
          go_simp
          try with_reducible rfl
        try simp only [Act.put, List.setIfInBounds_toArray, List.set_cons_zero, List.set_cons_succ]
        refine wpTill_take0 (i := 8) (oi := ⟨some 42, _, _, _, _, _⟩) (v := ?_) rfl (by kernel_rfl) (fun _ _ _ h => h) (Or.inl ⟨by rfl, ?_⟩) (fun _ => hHeld) ?_
        rotate_left
        · intro w hSw
          (try dsimp only at hSw)
          go_simp
          try with_reducible rfl
        try simp only [Act.put, List.setIfInBounds_toArray, List.set_cons_zero, List.set_cons_succ]
        refine wpTill_take (i := 9) (oi := ⟨some 43, _, _, _, _, _⟩) (v := ?_) rfl (by kernel_rfl) (fun _ _ _ h => h) (Or.inl ⟨by rfl, ?_⟩) (by exact hHeld) ?_
        rotate_left
        · intro w hSw
          (try dsimp only at hSw)
          go_simp
          try with_reducible rfl
        try simp only [Act.put, List.setIfInBounds_toArray, List.set_cons_zero, List.set_cons_succ]
        refine wpTill_ready (rs := [5, 12]) (by kernel_rfl) (by simp) ?_
        refine AllTill.cons (o := ⟨some 39, _, _, _, _, _⟩) rfl (fun K hK => ?_) ?_
        · go_simp
          go_at_call 43
          refine (rtaken_q r s fp _ (by exact H1.out.below ((Below.refl _ _).drew))).mono ?_
          rw [HTK.out]
          rintro e W5 ⟨rfl, q5, rfl⟩
          go_wp2_with fail
          refine hK.out _ _ (by exact HSof.out _ (by first | exact below_drewN (Below.refl _ _) _ | exact (below_drewN (Below.refl _ _) _).alloc (Nat.le_refl _) _ | exact ((Below.refl _ _).drew).alloc (Nat.le_refl _) _ | exact below_drewN (((Below.refl _ _).drew).alloc (Nat.le_refl _) _) _ | exact below_drewN ((below_drewN (Below.refl _ _) _).alloc (Nat.le_refl _) _) _)) (fun hHeld => ?_)
          clear hK K
          try simp only [Act.put, List.setIfInBounds_toArray, List.set_cons_zero, List.set_cons_succ]
          refine wpTill_take0 (i := 10) (oi := ⟨some 44, _, _, _, _, _⟩) (v := ?_) rfl (by kernel_rfl) (fun _ _ _ h => h) (Or.inl ⟨by rfl, ?_⟩) (fun _ => hHeld) ?_
          rotate_left
          · intro w hSw
            (try dsimp only at hSw)
            go_simp
            try with_reducible rfl
          try simp only [Act.put, List.setIfInBounds_toArray, List.set_cons_zero, List.set_cons_succ]
          refine wpTill_take0 (i := 11) (oi := ⟨some 45, _, _, _, _, _⟩) (v := ?_) rfl (by kernel_rfl) (fun _ _ _ h => h) (Or.inl ⟨by rfl, ?_⟩) (fun _ => hHeld) ?_
          rotate_left
          · intro w hSw
            (try dsimp only at hSw)
            go_simp
            try with_reducible rfl
          try simp only [Act.put, List.setIfInBounds_toArray, List.set_cons_zero, List.set_cons_succ]
          refine wpTill_ready (rs := [12]) (by kernel_rfl) (by simp) ?_
          refine AllTill.cons (o := ⟨some 6, _, _, _, _, _⟩) rfl (fun K hK => ?_) AllTill.nil
          go_simp
          refine hK.out _ _ (by exact HSof.out _ (by first | exact below_drewN (Below.refl _ _) _ | exact (below_drewN (Below.refl _ _) _).alloc (Nat.le_refl _) _ | exact ((Below.refl _ _).drew).alloc (Nat.le_refl _) _ | exact below_drewN (((Below.refl _ _).drew).alloc (Nat.le_refl _) _) _ | exact below_drewN ((below_drewN (Below.refl _ _) _).alloc (Nat.le_refl _) _) _)) (fun hHeld => ?_)
          clear hK K
          try simp only [Act.put, List.setIfInBounds_toArray, List.set_cons_zero, List.set_cons_succ]
          refine wpTill_ready (rs := [13]) (by kernel_rfl) (by simp) ?_
          refine AllTill.cons (o := ⟨none, _, _, _, _, _⟩) rfl (fun K hK => ?_) AllTill.nil
          rw [if_pos (by kernel_rfl)]
          refine wp_store_row 46 (.tmp 6) (.tmp 45) rfl _ _ rfl rfl 46 #[.int .i64 0, .int .u64 0, .int .u64 0, .slice none 0 0, .bool false, .int .u64 0, .int .u64 0, .int .u64 0, .int .u64 0, .int .u64 0, .slice none 0 0,
    .int .u8 0, .int .u8 0, .int .u8 0, .int .u8 0, .int .u8 0, .int .u8 0, .int .u8 0, .int .u8 0] (by first | exact alloc_at (wc.drewN (1 + q5)) _ | exact alloc_at wc.drew _) (by rw [sizeF]; rfl) rfl (by simp [Value.oneCell']) ?_
          refine hK.out _ _ (by exact HSof.out _ (setRow_below (by first | exact below_drewN (Below.refl _ _) _ | exact (below_drewN (Below.refl _ _) _).alloc (Nat.le_refl _) _ | exact ((Below.refl _ _).drew).alloc (Nat.le_refl _) _ | exact below_drewN (((Below.refl _ _).drew).alloc (Nat.le_refl _) _) _ | exact below_drewN ((below_drewN (Below.refl _ _) _).alloc (Nat.le_refl _) _) _) (Nat.le_refl _))) (fun hHeld => ?_)
          clear hK K
          try simp only [Act.put, List.setIfInBounds_toArray, List.set_cons_zero, List.set_cons_succ]
          refine wpTill_done (by kernel_rfl) ?_ _
          go_wp2_with fail
          go_meet
          case rel => exact ⟨_, rfl, Nat.le_refl _, setRow_below (by first | exact below_drewN (Below.refl _ _) _ | exact (below_drewN (Below.refl _ _) _).alloc (Nat.le_refl _) _ | exact ((Below.refl _ _).drew).alloc (Nat.le_refl _) _ | exact below_drewN (((Below.refl _ _).drew).alloc (Nat.le_refl _) _) _ | exact below_drewN ((below_drewN (Below.refl _ _) _).alloc (Nat.le_refl _) _) _) (Nat.le_refl _), setRow_heap _ _ #[.int .i64 0, .int .u64 0, .int .u64 0, .slice none 0 0, .bool false, .int .u64 0, .int .u64 0, .int .u64 0, .int .u64 0, .int .u64 0, .slice none 0 0,
    .int .u8 0, .int .u8 0, .int .u8 0, .int .u8 0, .int .u8 0, .int .u8 0, .int .u8 0, .int .u8 0] _ _ _ (by first | exact alloc_at (wc.drewN (1 + q5)) _ | exact alloc_at wc.drew _)⟩
        refine AllTill.cons (o := ⟨some 6, _, _, _, _, _⟩) rfl (fun K hK => ?_) ?_
        · go_simp
          refine hK.out _ _ (by exact HSof.out _ (by first | exact below_drewN (Below.refl _ _) _ | exact (below_drewN (Below.refl _ _) _).alloc (Nat.le_refl _) _ | exact ((Below.refl _ _).drew).alloc (Nat.le_refl _) _ | exact below_drewN (((Below.refl _ _).drew).alloc (Nat.le_refl _) _) _ | exact below_drewN ((below_drewN (Below.refl _ _) _).alloc (Nat.le_refl _) _) _)) (fun hHeld => ?_)
          clear hK K
          try simp only [Act.put, List.setIfInBounds_toArray, List.set_cons_zero, List.set_cons_succ]
          refine wpTill_ready (rs := [5]) (by kernel_rfl) (by simp) ?_
          refine AllTill.cons (o := ⟨some 39, _, _, _, _, _⟩) rfl (fun K hK => ?_) AllTill.nil
          go_simp
          go_at_call 43
          refine (rtaken_q r s fp _ (by exact H1.out.below (((Below.refl _ _).drew).alloc (Nat.le_refl _) _))).mono ?_
          rw [HTK.out]
          rintro e W5 ⟨rfl, q5, rfl⟩
          go_wp2_with fail
          refine hK.out _ _ (by exact HSof.out _ (by first | exact below_drewN (Below.refl _ _) _ | exact (below_drewN (Below.refl _ _) _).alloc (Nat.le_refl _) _ | exact ((Below.refl _ _).drew).alloc (Nat.le_refl _) _ | exact below_drewN (((Below.refl _ _).drew).alloc (Nat.le_refl _) _) _ | exact below_drewN ((below_drewN (Below.refl _ _) _).alloc (Nat.le_refl _) _) _)) (fun hHeld => ?_)
          clear hK K
          try simp only [Act.put, List.setIfInBounds_toArray, List.set_cons_zero, List.set_cons_succ]
          refine wpTill_take0 (i := 10) (oi := ⟨some 44, _, _, _, _, _⟩) (v := ?_) rfl (by kernel_rfl) (fun _ _ _ h => h) (Or.inl ⟨by rfl, ?_⟩) (fun _ => hHeld) ?_
          rotate_left
          · intro w hSw
            (try dsimp only at hSw)
            go_simp
            try with_reducible rfl
          try simp only [Act.put, List.setIfInBounds_toArray, List.set_cons_zero, List.set_cons_succ]
          refine wpTill_take0 (i := 11) (oi := ⟨some 45, _, _, _, _, _⟩) (v := ?_) rfl (by kernel_rfl) (fun _ _ _ h => h) (Or.inl ⟨by rfl, ?_⟩) (fun _ => hHeld) ?_
          rotate_left
          · intro w hSw
            (try dsimp only at hSw)
            go_simp
            try with_reducible rfl
          try simp only [Act.put, List.setIfInBounds_toArray, List.set_cons_zero, List.set_cons_succ]
          refine wpTill_ready (rs := [13]) (by kernel_rfl) (by simp) ?_
          refine AllTill.cons (o := ⟨none, _, _, _, _, _⟩) rfl (fun K hK => ?_) AllTill.nil
          rw [if_pos (by kernel_rfl)]
          refine wp_store_row 46 (.tmp 6) (.tmp 45) rfl _ _ rfl rfl 46 #[.int .i64 0, .int .u64 0, .int .u64 0, .slice none 0 0, .bool false, .int .u64 0, .int .u64 0, .int .u64 0, .int .u64 0, .int .u64 0, .slice none 0 0,
    .int .u8 0, .int .u8 0, .int .u8 0, .int .u8 0, .int .u8 0, .int .u8 0, .int .u8 0, .int .u8 0] (by first | exact alloc_at (wc.drewN (1 + q5)) _ | exact alloc_at wc.drew _) (by rw [sizeF]; rfl) rfl (by simp [Value.oneCell']) ?_
          refine hK.out _ _ (by exact HSof.out _ (setRow_below (by first | exact below_drewN (Below.refl _ _) _ | exact (below_drewN (Below.refl _ _) _).alloc (Nat.le_refl _) _ | exact ((Below.refl _ _).drew).alloc (Nat.le_refl _) _ | exact below_drewN (((Below.refl _ _).drew).alloc (Nat.le_refl _) _) _ | exact below_drewN ((below_drewN (Below.refl _ _) _).alloc (Nat.le_refl _) _) _) (Nat.le_refl _))) (fun hHeld => ?_)
          clear hK K
          try simp only [Act.put, List.setIfInBounds_toArray, List.set_cons_zero, List.set_cons_succ]
          refine wpTill_done (by kernel_rfl) ?_ _
          go_wp2_with fail
          go_meet
          case rel => exact ⟨_, rfl, Nat.le_refl _, setRow_below (by first | exact below_drewN (Below.refl _ _) _ | exact (below_drewN (Below.refl _ _) _).alloc (Nat.le_refl _) _ | exact ((Below.refl _ _).drew).alloc (Nat.le_refl _) _ | exact below_drewN (((Below.refl _ _).drew).alloc (Nat.le_refl _) _) _ | exact below_drewN ((below_drewN (Below.refl _ _) _).alloc (Nat.le_refl _) _) _) (Nat.le_refl _), setRow_heap _ _ #[.int .i64 0, .int .u64 0, .int .u64 0, .slice none 0 0, .bool false, .int .u64 0, .int .u64 0, .int .u64 0, .int .u64 0, .int .u64 0, .slice none 0 0,
    .int .u8 0, .int .u8 0, .int .u8 0, .int .u8 0, .int .u8 0, .int .u8 0, .int .u8 0, .int .u8 0] _ _ _ (by first | exact alloc_at (wc.drewN (1 + q5)) _ | exact alloc_at wc.drew _)⟩
        exact AllTill.nil
      case rest =>
        obtain ⟨z, rfl, hz, hb2, hkz⟩ := hcut
        have HKY2 := Lib.hid (below_keeps hb2 HKY.out (heap_lt HKY.out))
        have HB2 := Lib.hid (below_call HB1.out HB1.out.size hb2)
        have HZW := Lib.hid (Nat.le_trans HB1.out.size hz)
        have hyz : ¬ y = z := by
          have := heap_lt HKY.out
          omega
        have HKZ2 := Lib.hid hkz
        clear hz hb2 hkz HKY H1 HB1
        generalize wc = w2 at *
        have H2 := Lib.hid (H.out.below HB2.out)
        obtain ⟨hf, hfe⟩ : ∃ hf : Nat, win / 2 = hf := ⟨_, rfl⟩
        have hfi : (win : Int).tdiv 2 = (hf : Int) := by rw [Int.tdiv_eq_ediv_of_nonneg (by omega)]; omega
        obtain ⟨lim, hlime⟩ : ∃ lim, s.lim = lim := ⟨_, rfl⟩
        obtain ⟨ag, hage⟩ : ∃ ag, s.ag = ag := ⟨_, rfl⟩
        rw [hlime, hage] at D
        rw [hlime] at hlim
        obtain ⟨M, hM⟩ : ∃ M, max 1 hf = M := ⟨_, rfl⟩
        obtain ⟨sm, hsm, hsm2⟩ : ∃ sm : Nat, (lim : Int) + (M : Int) = (sm : Int) ∧ lim + M = sm := ⟨lim + M, by omega, rfl⟩
        obtain ⟨due, hdue⟩ : ∃ due, s.due = due := ⟨_, rfl⟩
        have HDU := Lib.hid (show (decide (sm ≤ top) || ag) = due from by
          rw [← hdue, RS.due, RS.top, HID.out.2.1, HID.out.2.2.1, hlime, hage, hfe, hM, hsm2, HID.out.2.2.2.1])
        have HLA := Lib.hid (And.intro hlime (And.intro hage hdue))
        have e1 := cell_keep HB2.out hrw D.out.2.1
        have e3 := cell_keep HB2.out hrw D.out.2.2.2.1
        have e28 := cell_keep HB2.out hrw D.out.2.2.2.2.2
        have z5 : w2.cell? ⟨z, 5, none⟩ = some (.int .u64 top) := (cell_at HKZ2.out 5).trans rfl
        have hwf : IntKind.u64.wrap (hf : Int) = hf := IntWalk.u64_in _ (by omega)
        have hws : IntKind.u64.wrap (sm : Int) = sm := IntWalk.u64_in _ (by omega)
        have hfb : hf ≤ 2048 := by omega
        clear hlime hage hdue hfe hsm2
        go_upto_region 7 with fail
        go_cut [7] (fun v wx => v = .bool due ∧ ∃ q, wx = w2.drewN q)
        case first =>
          rcases Int.lt_or_le (1 : Int) (hf : Int) with hm1 | hm1
          · have hMi : hf = M := by omega
            subst hMi
            rcases Int.lt_or_le (top : Int) (sm : Int) with ht | ht
            rotate_left
            · have htn : sm ≤ top := by omega
              have HD1 := Lib.hid ((show (decide (sm ≤ top) || ag) = true by rw [decide_eq_true (by omega)]; rfl).symm.trans HDU.out)
              go_quiet (fail)
              go_wp2_with fail
              go_meet
              case rel => exact ⟨by rw [← HD1.out], _, rfl⟩
            · have htn : top < sm := by omega
              have htb : decide (sm ≤ top) = false := decide_eq_false (by omega)
              have HD1 := Lib.hid ((show (decide (sm ≤ top) || ag) = ag by rw [decide_eq_false (by omega)]; rfl).symm.trans HDU.out)
              go_quiet (fail)
              go_wp2_with fail
              go_meet
              case rel => exact ⟨by rw [← HD1.out], _, rfl⟩
          · have hmn : ¬ 1 < hf := by omega
            have hmi : ¬ (1 : Int) < (hf : Int) := by omega
            have hMi : M = 1 := by omega
            have hsm1 : (lim : Int) + 1 = (sm : Int) := by omega
            have hsm3 : lim + 1 = sm := by omega
            clear hsm hM hMi
            rcases Int.lt_or_le (top : Int) (sm : Int) with ht | ht
            rotate_left
            · have htn : sm ≤ top := by omega
              have HD1 := Lib.hid ((show (decide (sm ≤ top) || ag) = true by rw [decide_eq_true (by omega)]; rfl).symm.trans HDU.out)
              go_quiet (fail)
              go_wp2_with fail
              go_meet
              case rel => exact ⟨by rw [← HD1.out], _, rfl⟩
            · have htn : top < sm := by omega
              have htb : decide (sm ≤ top) = false := decide_eq_false (by omega)
              have HD1 := Lib.hid ((show (decide (sm ≤ top) || ag) = ag by rw [decide_eq_false (by omega)]; rfl).symm.trans HDU.out)
              go_quiet (fail)
              go_wp2_with fail
              go_meet
              case rel => exact ⟨by rw [← HD1.out], _, rfl⟩
        case rest =>
          obtain ⟨rfl, q, rfl⟩ := hcut
          clear e1 e3 e28 z5
          have HKY3 := Lib.hid (show (w2.drewN q).heap[y]? = _ from HKY2.out)
          have HKZ3 := Lib.hid (show (w2.drewN q).heap[z]? = _ from HKZ2.out)
          have HB3 := Lib.hid (below_drewN HB2.out q)
          clear HKY2 HKZ2 HB2 H2
          generalize w2.drewN q = w3 at *
          obtain ⟨sz, hsz⟩ : ∃ sz, size17 (maxF id top) = sz := ⟨_, rfl⟩
          have hszc := fun w => size_17 (maxF id top) w rfl ⟨by show (-9223372036854775808 : Int) ≤ 17 ∧ (17 : Int) ≤ 9223372036854775807; omega, hidb, by show 0 < 18446744073709551616; omega, by show top < 18446744073709551616; omega, by show 0 < 18446744073709551616; omega, by show 0 < 18446744073709551616; omega⟩ (by show 0 < 18446744073709551616; omega) rfl rfl
          rw [size17_int, hsz] at hszc
          simp only [maxF, encF] at hszc
          have HSZ := Lib.hid hszc
          obtain ⟨no, hno⟩ : ∃ no, (decide (st ≠ 1) || !due || decide (room < (sz : Int)) || decide (sz = 0)) = no := ⟨_, rfl⟩
          have HNO := Lib.hid hno
          have HF3 := Lib.hid (show (if no = true then (s, zeroF, false) else ({ s with lim := max lim top, ag := false }, maxF id top, true)) = F from by
            rw [← HF.out, ← hno]
            have e1 := HID.out
            have e2 := HLA.out
            have et : s.top = top := by rw [RS.top, e1.2.2.1, e1.2.1]; exact e1.2.2.2.1
            rw [e1.1, et, e2.1, e2.2.2, e1.2.2.2.2, hsz]
            simp only [Bool.or_eq_true, decide_eq_true_eq, Bool.not_eq_true', or_assoc])
          have hszb : no = false → top ≤ 1099511627776 ∧ sz ≠ 0 := by
            intro h
            rw [← hno] at h
            simp only [Bool.or_eq_false_iff, decide_eq_false_iff_not] at h
            refine ⟨?_, h.2⟩
            have h9 := h.2
            rw [← hsz] at h9
            unfold size17 right17 at h9
            split at h9
            · rename_i hq
              simp only [Bool.and_eq_true, decide_eq_true_eq] at hq
              exact hq.2
            · exact absurd rfl h9
          have HSZB := Lib.hid hszb
          clear hszc hsz hno hszb
          have e2 := cell_keep HB3.out hrw D.out.2.2.1
          go_upto_region 8 with fail
          go_cut [85] (fun v wx => v = .bool no ∧ Below w3.heap.size w3 wx)
          case first =>
            by_cases hs1 : st = 1
            · subst hs1
              cases due
              · have hn1 : no = true := by rw [← HNO.out]; simp
                have HN1 := Lib.hid hn1
                clear hn1
                go_wp2_with fail
                go_meet
                case rel => exact ⟨by rw [HN1.out], Below.refl _ _⟩
              · go_wp2_with (refine wpList_load_rowG (by kernel_rfl) 46 (.tmp 6) rfl z rfl 46 _ (0, 0) _ (by exact HKZ3.out) Tryz.underlying46 rfl (by rw [sizeF]; rfl) ?_)
                refine (HSZ.out _).mono ?_
                rintro x w4 ⟨rfl, hb4⟩
                have HKZ4 := Lib.hid (below_keeps hb4 HKZ3.out (heap_lt HKZ3.out))
                have HB4 := Lib.hid hb4
                clear hb4
                by_cases hrm : room < (sz : Int)
                · have hn1 : no = true := by rw [← HNO.out]; simp [hrm]
                  have HN1 := Lib.hid hn1
                  clear hn1
                  go_wp2_with fail
                  go_meet
                  case rel => exact ⟨by rw [HN1.out], HB4.out⟩
                · have hrmb : decide (room < (sz : Int)) = false := decide_eq_false hrm
                  have hnn : no = decide (sz = 0) := by rw [← HNO.out, hrmb]; simp
                  have HNN := Lib.hid hnn
                  clear hnn
                  go_wp2_with (refine wpList_load_rowG (by kernel_rfl) 46 (.tmp 6) rfl z rfl 46 _ (0, 0) _ (by exact HKZ4.out) Tryz.underlying46 rfl (by rw [sizeF]; rfl) ?_)
                  refine (HSZ.out _).mono ?_
                  rintro x w5 ⟨rfl, hb5⟩
                  have HB5 := Lib.hid (below_call HB4.out HB4.out.size hb5)
                  clear hb5
                  have hsb : ((sz : Int) == 0) = decide (sz = 0) := by rw [Bool.eq_iff_iff]; simp
                  go_wp2_with fail
                  go_meet
                  case rel => exact ⟨by rw [HNN.out], HB5.out⟩
            · have hs1b : ((st : Int) != 1) = true := by simp [bne]; omega
              have hn1 : no = true := by rw [← HNO.out]; simp [hs1]
              have HN1 := Lib.hid hn1
              clear hn1
              go_wp2_with fail
              go_meet
              case rel => exact ⟨by rw [HN1.out], Below.refl _ _⟩
          case rest =>
            obtain ⟨rfl, hb4⟩ := hcut
            have HKY4 := Lib.hid (below_keeps hb4 HKY3.out (heap_lt HKY3.out))
            have HKZ4 := Lib.hid (below_keeps hb4 HKZ3.out (heap_lt HKZ3.out))
            have HB4 := Lib.hid (below_call HB3.out HB3.out.size hb4)
            clear hb4 e2 HKY3 HKZ3 HSZ
            generalize wc = w4 at *
            cases no
            · obtain ⟨ht1, _⟩ := HSZB.out rfl
              obtain ⟨mx, hmx⟩ : ∃ mx, max lim top = mx := ⟨_, rfl⟩
              rw [hmx] at HF3
              obtain rfl : ({ s with lim := mx, ag := false }, maxF id top, true) = F := by
                have := HF3.out
                simpa using this
              have hmb : mx ≤ 1099511640000 := by omega
              have e3 := cell_keep HB4.out hrw D.out.2.2.2.1
              have z5 : w4.cell? ⟨z, 5, none⟩ = some (.int .u64 top) := (cell_at HKZ4.out 5).trans rfl
              have hb5 := H0.out.later HB4.out
              have f3 := free_at hb5.blk 3
              have f28 := free_at hb5.blk 28
              have e28 := cell_keep HB4.out hrw D.out.2.2.2.2.2
              have hzr : ¬ z = r := by have := HZW.out; omega
              have hyr : ¬ y = r := by have := HY.out; omega
              have hu := ((Upd.refl (fun j => j = r) w4.drew).setCell ⟨r, 3, none⟩ (.inl rfl) (.int .u64 (mx : Int))).setCell ⟨r, 28, none⟩ (.inl rfl) (.bool false)
              have HZS := Lib.hid (hu.keeps (show w4.drew.heap[z]? = _ from HKZ4.out) hzr)
              have HYS := Lib.hid (hu.keeps (show w4.drew.heap[y]? = _ from HKY4.out) hyr)
              have HRM := Lib.hid (H0.out.maxed HFP.out HB4.out.drew mx hmb y HY.out #[.int .i64 17, .int .u64 id, .int .u64 0, .slice none 0 0, .bool false, .int .u64 top, .int .u64 0, .int .u64 0, .int .u64 0, .int .u64 0, .slice none 0 0,
    .int .u8 0, .int .u8 0, .int .u8 0, .int .u8 0, .int .u8 0, .int .u8 0, .int .u8 0, .int .u8 0])
              clear hb5 hu HF3 HSZB
              rcases Nat.lt_or_ge lim top with hlt | hlt
              · obtain rfl : mx = top := by omega
                have hlti : (lim : Int) < (mx : Int) := by omega
                go_wp2_with fail
                refine wp_region_till (S := fun w' => w'.cell? ⟨r, 3, none⟩ = some (.int .u64 lim) ∧ w'.cell? ⟨z, 5, none⟩ = some (.int .u64 mx)) [11, 14] (by kernel_rfl) (by exact ⟨e3, z5⟩) (fun hHeld => ?_)
                refine wpTill_take0 (i := 0) (oi := ⟨some 87, _, _, _, _, _⟩) (v := ?_) rfl (by kernel_rfl) (fun _ _ _ h => h) (Or.inl ⟨by rfl, ?_⟩) (fun _ => hHeld) ?_
                rotate_left
                · intro w hSw
                  (try dsimp only at hSw)
                  go_simp
                  try with_reducible rfl
                try simp only [Act.put, List.setIfInBounds_toArray, List.set_cons_zero, List.set_cons_succ]
                refine wpTill_take0 (i := 2) (oi := ⟨some 89, _, _, _, _, _⟩) (v := ?_) rfl (by kernel_rfl) (fun _ _ _ h => h) (Or.inl ⟨by rfl, ?_⟩) (fun _ => hHeld) ?_
                rotate_left
                · intro w hSw
                  (try dsimp only at hSw)
                  go_simp
                  try with_reducible rfl
                try simp only [Act.put, List.setIfInBounds_toArray, List.set_cons_zero, List.set_cons_succ]
                refine wpTill_take0 (i := 3) (oi := ⟨some 90, _, _, _, _, _⟩) (v := ?_) rfl (by kernel_rfl) (fun _ _ _ h => h) (Or.inl ⟨by rfl, ?_⟩) (fun _ => hHeld) ?_
                rotate_left
                · intro w hSw
                  (try dsimp only at hSw)
                  go_simp
                  try with_reducible rfl
                try simp only [Act.put, List.setIfInBounds_toArray, List.set_cons_zero, List.set_cons_succ]
                refine wpTill_take0 (i := 4) (oi := ⟨some 91, _, _, _, _, _⟩) (v := ?_) rfl (by kernel_rfl) (fun _ _ _ h => h) (Or.inl ⟨by rfl, ?_⟩) (fun _ => hHeld) ?_
                rotate_left
                · intro w hSw
                  (try dsimp only at hSw)
                  go_simp
                  try with_reducible rfl
                try simp only [Act.put, List.setIfInBounds_toArray, List.set_cons_zero, List.set_cons_succ]
                refine wpTill_take (i := 5) (oi := ⟨some 92, _, _, _, _, _⟩) (v := ?_) rfl (by kernel_rfl) (fun _ _ _ h => h) (Or.inl ⟨by rfl, ?_⟩) (by exact hHeld) ?_
                rotate_left
                · intro w hSw
                  (try dsimp only at hSw)
                  go_simp
                  try with_reducible rfl
                try simp only [Act.put, List.setIfInBounds_toArray, List.set_cons_zero, List.set_cons_succ]
                refine wpTill_take0 (i := 6) (oi := ⟨some 93, _, _, _, _, _⟩) (v := ?_) rfl (by kernel_rfl) (fun _ _ _ h => h) (Or.inl ⟨by rfl, ?_⟩) (fun _ => hHeld) ?_
                rotate_left
                · intro w hSw
                  (try dsimp only at hSw)
                  go_simp
                  try with_reducible rfl
                try simp only [Act.put, List.setIfInBounds_toArray, List.set_cons_zero, List.set_cons_succ]
                refine wpTill_take (i := 7) (oi := ⟨some 94, _, _, _, _, _⟩) (v := ?_) rfl (by kernel_rfl) (fun _ _ _ h => h) (Or.inl ⟨by rfl, ?_⟩) (by exact hHeld) ?_
                rotate_left
                · intro w hSw
                  (try dsimp only at hSw)
                  go_simp
                  try with_reducible rfl
                try simp only [Act.put, List.setIfInBounds_toArray, List.set_cons_zero, List.set_cons_succ]
                refine wpTill_take0 (i := 8) (oi := ⟨some 95, _, _, _, _, _⟩) (v := ?_) rfl (by kernel_rfl) (fun _ _ _ h => h) (Or.inl ⟨by rfl, ?_⟩) (fun _ => hHeld) ?_
                rotate_left
                · intro w hSw
                  (try dsimp only at hSw)
                  go_simp
                  try with_reducible rfl
                try simp only [Act.put, List.setIfInBounds_toArray, List.set_cons_zero, List.set_cons_succ]
                refine wpTill_take0 (i := 9) (oi := ⟨some 96, _, _, _, _, _⟩) (v := ?_) rfl (by kernel_rfl) (fun _ _ _ h => h) (Or.inl ⟨by rfl, ?_⟩) (fun _ => hHeld) ?_
                rotate_left
                · intro w hSw
                  (try dsimp only at hSw)
                  go_simp
                  try with_reducible rfl
                try simp only [Act.put, List.setIfInBounds_toArray, List.set_cons_zero, List.set_cons_succ]
                refine wpTill_take0 (i := 10) (oi := ⟨some 97, _, _, _, _, _⟩) (v := ?_) rfl (by kernel_rfl) (fun _ _ _ h => h) (Or.inl ⟨by rfl, ?_⟩) (fun _ => hHeld) ?_
                rotate_left
                · intro w hSw
                  (try dsimp only at hSw)
                  go_simp
                  try with_reducible rfl
                try simp only [Act.put, List.setIfInBounds_toArray, List.set_cons_zero, List.set_cons_succ]
                refine wpTill_ready (rs := [1, 11]) (by kernel_rfl) (by simp) ?_
                refine AllTill.cons (o := ⟨some 88, _, _, _, _, _⟩) rfl (fun K hK => ?_) ?_
                ·
                  go_simp
                  refine hK.out _ _ (by exact hHeld) (fun hHeld => ?_)
                  clear hK K
                  try simp only [Act.put, List.setIfInBounds_toArray, List.set_cons_zero, List.set_cons_succ]
                  refine wpTill_ready (rs := [11]) (by kernel_rfl) (by simp) ?_
                  refine AllTill.consD (o := ⟨none, _, _, _, _, _⟩) rfl (by kernel_rfl) (fun K hK => ?_) AllTill.nil
                  go_simp
                  refine hK.out _ _ ?_
                  clear hK K
                  try simp only [Act.put, List.setIfInBounds_toArray, List.set_cons_zero, List.set_cons_succ]
                  refine wpTill_take0 (i := 12) (oi := ⟨some 98, _, _, _, _, _⟩) (v := ?_) rfl (by kernel_rfl) (fun _ _ _ h => h) (Or.inl ⟨by rfl, ?_⟩) (fun h => Bool.noConfusion (h.symm.trans (show _ = true by kernel_rfl))) ?_
                  rotate_left
                  · intro w hSw
                    (try dsimp only at hSw)
                    go_simp
                    try with_reducible rfl
                  try simp only [Act.put, List.setIfInBounds_toArray, List.set_cons_zero, List.set_cons_succ]
                  refine wpTill_take0 (i := 13) (oi := ⟨some 99, _, _, _, _, _⟩) (v := ?_) rfl (by kernel_rfl) (fun _ _ _ h => h) (Or.inl ⟨by rfl, ?_⟩) (fun h => Bool.noConfusion (h.symm.trans (show _ = true by kernel_rfl))) ?_
                  rotate_left
                  · intro w hSw
                    (try dsimp only at hSw)
                    go_simp
                    try with_reducible rfl
                  try simp only [Act.put, List.setIfInBounds_toArray, List.set_cons_zero, List.set_cons_succ]
                  refine wpTill_ready (rs := [14]) (by kernel_rfl) (by simp) ?_
                  refine AllTill.consD (o := ⟨none, _, _, _, _, _⟩) rfl (by kernel_rfl) (fun K hK => ?_) AllTill.nil
                  go_simp
                  refine hK.out _ _ ?_
                  clear hK K
                  try simp only [Act.put, List.setIfInBounds_toArray, List.set_cons_zero, List.set_cons_succ]
                  refine wpTill_done (by kernel_rfl) ?_ _
                  go_wp2_with (first
                    | refine wpList_load_row rfl 46 (.tmp 6) rfl z rfl 46 _ (0, 0) _ (by exact HZS.out) Tryz.underlying46 rfl (by rw [sizeF]; rfl) ?_
                    | refine wpList_store_row rfl 46 (.tmp 4) (.tmp 100) rfl _ _ rfl rfl 46 #[.int .i64 0, .int .u64 0, .int .u64 0, .slice none 0 0, .bool false, .int .u64 0, .int .u64 0, .int .u64 0, .int .u64 0, .int .u64 0, .slice none 0 0,
    .int .u8 0, .int .u8 0, .int .u8 0, .int .u8 0, .int .u8 0, .int .u8 0, .int .u8 0, .int .u8 0] (by exact HYS.out) (by rw [sizeF]; rfl) rfl (by simp [Value.oneCell']) ?_)
                  (try simp only [Exit.inBlock, Exit.then])
                  refine bodyPost_ret (results_row_tmp rfl _ _ y 46 #[.int .i64 17, .int .u64 id, .int .u64 0, .slice none 0 0, .bool false, .int .u64 mx, .int .u64 0, .int .u64 0, .int .u64 0, .int .u64 0, .slice none 0 0,
    .int .u8 0, .int .u8 0, .int .u8 0, .int .u8 0, .int .u8 0, .int .u8 0, .int .u8 0, .int .u8 0] (0, 0) _ rfl (setRow_heap _ y _ _ _ _ HYS.out) Tryz.underlying46 rfl (by rw [sizeF]; rfl)) rfl ?_
                  exact ⟨rfl, HRM.out⟩
                refine AllTill.consD (o := ⟨none, _, _, _, _, _⟩) rfl (by kernel_rfl) (fun K hK => ?_) ?_
                ·
                  go_simp
                  refine hK.out _ _ ?_
                  clear hK K
                  try simp only [Act.put, List.setIfInBounds_toArray, List.set_cons_zero, List.set_cons_succ]
                  refine wpTill_ready (rs := [1]) (by kernel_rfl) (by simp) ?_
                  refine AllTill.consD (o := ⟨some 88, _, _, _, _, _⟩) rfl (by kernel_rfl) (fun K hK => ?_) AllTill.nil
                  go_simp
                  refine hK.out _ _ ?_
                  clear hK K
                  try simp only [Act.put, List.setIfInBounds_toArray, List.set_cons_zero, List.set_cons_succ]
                  refine wpTill_take0 (i := 12) (oi := ⟨some 98, _, _, _, _, _⟩) (v := ?_) rfl (by kernel_rfl) (fun _ _ _ h => h) (Or.inl ⟨by rfl, ?_⟩) (fun h => Bool.noConfusion (h.symm.trans (show _ = true by kernel_rfl))) ?_
                  rotate_left
                  · intro w hSw
                    (try dsimp only at hSw)
                    go_simp
                    try with_reducible rfl
                  try simp only [Act.put, List.setIfInBounds_toArray, List.set_cons_zero, List.set_cons_succ]
                  refine wpTill_take0 (i := 13) (oi := ⟨some 99, _, _, _, _, _⟩) (v := ?_) rfl (by kernel_rfl) (fun _ _ _ h => h) (Or.inl ⟨by rfl, ?_⟩) (fun h => Bool.noConfusion (h.symm.trans (show _ = true by kernel_rfl))) ?_
                  rotate_left
                  · intro w hSw
                    (try dsimp only at hSw)
                    go_simp
                    try with_reducible rfl
                  try simp only [Act.put, List.setIfInBounds_toArray, List.set_cons_zero, List.set_cons_succ]
                  refine wpTill_ready (rs := [14]) (by kernel_rfl) (by simp) ?_
                  refine AllTill.consD (o := ⟨none, _, _, _, _, _⟩) rfl (by kernel_rfl) (fun K hK => ?_) AllTill.nil
                  go_simp
                  refine hK.out _ _ ?_
                  clear hK K
                  try simp only [Act.put, List.setIfInBounds_toArray, List.set_cons_zero, List.set_cons_succ]
                  refine wpTill_done (by kernel_rfl) ?_ _
                  go_wp2_with (first
                    | refine wpList_load_row rfl 46 (.tmp 6) rfl z rfl 46 _ (0, 0) _ (by exact HZS.out) Tryz.underlying46 rfl (by rw [sizeF]; rfl) ?_
                    | refine wpList_store_row rfl 46 (.tmp 4) (.tmp 100) rfl _ _ rfl rfl 46 #[.int .i64 0, .int .u64 0, .int .u64 0, .slice none 0 0, .bool false, .int .u64 0, .int .u64 0, .int .u64 0, .int .u64 0, .int .u64 0, .slice none 0 0,
    .int .u8 0, .int .u8 0, .int .u8 0, .int .u8 0, .int .u8 0, .int .u8 0, .int .u8 0, .int .u8 0] (by exact HYS.out) (by rw [sizeF]; rfl) rfl (by simp [Value.oneCell']) ?_)
                  (try simp only [Exit.inBlock, Exit.then])
                  refine bodyPost_ret (results_row_tmp rfl _ _ y 46 #[.int .i64 17, .int .u64 id, .int .u64 0, .slice none 0 0, .bool false, .int .u64 mx, .int .u64 0, .int .u64 0, .int .u64 0, .int .u64 0, .slice none 0 0,
    .int .u8 0, .int .u8 0, .int .u8 0, .int .u8 0, .int .u8 0, .int .u8 0, .int .u8 0, .int .u8 0] (0, 0) _ rfl (setRow_heap _ y _ _ _ _ HYS.out) Tryz.underlying46 rfl (by rw [sizeF]; rfl)) rfl ?_
                  exact ⟨rfl, HRM.out⟩
                exact AllTill.nil
              · obtain rfl : mx = lim := by omega
                have hlti : ¬ (mx : Int) < (top : Int) := by omega
                have hltn : ¬ mx < top := by omega
                go_wp2_with fail
                refine wp_region_till (S := fun w' => w'.cell? ⟨r, 3, none⟩ = some (.int .u64 mx) ∧ w'.cell? ⟨z, 5, none⟩ = some (.int .u64 top)) [11, 14] (by kernel_rfl) (by exact ⟨e3, z5⟩) (fun hHeld => ?_)
                refine wpTill_take0 (i := 0) (oi := ⟨some 87, _, _, _, _, _⟩) (v := ?_) rfl (by kernel_rfl) (fun _ _ _ h => h) (Or.inl ⟨by rfl, ?_⟩) (fun _ => hHeld) ?_
                rotate_left
                · intro w hSw
                  (try dsimp only at hSw)
                  go_simp
                  try with_reducible rfl
                try simp only [Act.put, List.setIfInBounds_toArray, List.set_cons_zero, List.set_cons_succ]
                refine wpTill_take0 (i := 2) (oi := ⟨some 89, _, _, _, _, _⟩) (v := ?_) rfl (by kernel_rfl) (fun _ _ _ h => h) (Or.inl ⟨by rfl, ?_⟩) (fun _ => hHeld) ?_
                rotate_left
                · intro w hSw
                  (try dsimp only at hSw)
                  go_simp
                  try with_reducible rfl
                try simp only [Act.put, List.setIfInBounds_toArray, List.set_cons_zero, List.set_cons_succ]
                refine wpTill_take0 (i := 3) (oi := ⟨some 90, _, _, _, _, _⟩) (v := ?_) rfl (by kernel_rfl) (fun _ _ _ h => h) (Or.inl ⟨by rfl, ?_⟩) (fun _ => hHeld) ?_
                rotate_left
                · intro w hSw
                  (try dsimp only at hSw)
                  go_simp
                  try with_reducible rfl
                try simp only [Act.put, List.setIfInBounds_toArray, List.set_cons_zero, List.set_cons_succ]
                refine wpTill_take0 (i := 4) (oi := ⟨some 91, _, _, _, _, _⟩) (v := ?_) rfl (by kernel_rfl) (fun _ _ _ h => h) (Or.inl ⟨by rfl, ?_⟩) (fun _ => hHeld) ?_
                rotate_left
                · intro w hSw
                  (try dsimp only at hSw)
                  go_simp
                  try with_reducible rfl
                try simp only [Act.put, List.setIfInBounds_toArray, List.set_cons_zero, List.set_cons_succ]
                refine wpTill_take (i := 5) (oi := ⟨some 92, _, _, _, _, _⟩) (v := ?_) rfl (by kernel_rfl) (fun _ _ _ h => h) (Or.inl ⟨by rfl, ?_⟩) (by exact hHeld) ?_
                rotate_left
                · intro w hSw
                  (try dsimp only at hSw)
                  go_simp
                  try with_reducible rfl
                try simp only [Act.put, List.setIfInBounds_toArray, List.set_cons_zero, List.set_cons_succ]
                refine wpTill_take0 (i := 6) (oi := ⟨some 93, _, _, _, _, _⟩) (v := ?_) rfl (by kernel_rfl) (fun _ _ _ h => h) (Or.inl ⟨by rfl, ?_⟩) (fun _ => hHeld) ?_
                rotate_left
                · intro w hSw
                  (try dsimp only at hSw)
                  go_simp
                  try with_reducible rfl
                try simp only [Act.put, List.setIfInBounds_toArray, List.set_cons_zero, List.set_cons_succ]
                refine wpTill_take (i := 7) (oi := ⟨some 94, _, _, _, _, _⟩) (v := ?_) rfl (by kernel_rfl) (fun _ _ _ h => h) (Or.inl ⟨by rfl, ?_⟩) (by exact hHeld) ?_
                rotate_left
                · intro w hSw
                  (try dsimp only at hSw)
                  go_simp
                  try with_reducible rfl
                try simp only [Act.put, List.setIfInBounds_toArray, List.set_cons_zero, List.set_cons_succ]
                refine wpTill_take0 (i := 8) (oi := ⟨some 95, _, _, _, _, _⟩) (v := ?_) rfl (by kernel_rfl) (fun _ _ _ h => h) (Or.inl ⟨by rfl, ?_⟩) (fun _ => hHeld) ?_
                rotate_left
                · intro w hSw
                  (try dsimp only at hSw)
                  go_simp
                  try with_reducible rfl
                try simp only [Act.put, List.setIfInBounds_toArray, List.set_cons_zero, List.set_cons_succ]
                refine wpTill_take0 (i := 9) (oi := ⟨some 96, _, _, _, _, _⟩) (v := ?_) rfl (by kernel_rfl) (fun _ _ _ h => h) (Or.inl ⟨by rfl, ?_⟩) (fun _ => hHeld) ?_
                rotate_left
                · intro w hSw
                  (try dsimp only at hSw)
                  go_simp
                  try with_reducible rfl
                try simp only [Act.put, List.setIfInBounds_toArray, List.set_cons_zero, List.set_cons_succ]
                refine wpTill_take0 (i := 10) (oi := ⟨some 97, _, _, _, _, _⟩) (v := ?_) rfl (by kernel_rfl) (fun _ _ _ h => h) (Or.inl ⟨by rfl, ?_⟩) (fun _ => hHeld) ?_
                rotate_left
                · intro w hSw
                  (try dsimp only at hSw)
                  go_simp
                  try with_reducible rfl
                try simp only [Act.put, List.setIfInBounds_toArray, List.set_cons_zero, List.set_cons_succ]
                refine wpTill_ready (rs := [1, 11]) (by kernel_rfl) (by simp) ?_
                refine AllTill.cons (o := ⟨some 88, _, _, _, _, _⟩) rfl (fun K hK => ?_) ?_
                ·
                  go_simp
                  refine hK.out _ _ (by exact hHeld) (fun hHeld => ?_)
                  clear hK K
                  try simp only [Act.put, List.setIfInBounds_toArray, List.set_cons_zero, List.set_cons_succ]
                  refine wpTill_ready (rs := [11]) (by kernel_rfl) (by simp) ?_
                  refine AllTill.consD (o := ⟨none, _, _, _, _, _⟩) rfl (by kernel_rfl) (fun K hK => ?_) AllTill.nil
                  go_simp
                  refine hK.out _ _ ?_
                  clear hK K
                  try simp only [Act.put, List.setIfInBounds_toArray, List.set_cons_zero, List.set_cons_succ]
                  refine wpTill_take0 (i := 12) (oi := ⟨some 98, _, _, _, _, _⟩) (v := ?_) rfl (by kernel_rfl) (fun _ _ _ h => h) (Or.inl ⟨by rfl, ?_⟩) (fun h => Bool.noConfusion (h.symm.trans (show _ = true by kernel_rfl))) ?_
                  rotate_left
                  · intro w hSw
                    (try dsimp only at hSw)
                    go_simp
                    try with_reducible rfl
                  try simp only [Act.put, List.setIfInBounds_toArray, List.set_cons_zero, List.set_cons_succ]
                  refine wpTill_take0 (i := 13) (oi := ⟨some 99, _, _, _, _, _⟩) (v := ?_) rfl (by kernel_rfl) (fun _ _ _ h => h) (Or.inl ⟨by rfl, ?_⟩) (fun h => Bool.noConfusion (h.symm.trans (show _ = true by kernel_rfl))) ?_
                  rotate_left
                  · intro w hSw
                    (try dsimp only at hSw)
                    go_simp
                    try with_reducible rfl
                  try simp only [Act.put, List.setIfInBounds_toArray, List.set_cons_zero, List.set_cons_succ]
                  refine wpTill_ready (rs := [14]) (by kernel_rfl) (by simp) ?_
                  refine AllTill.consD (o := ⟨none, _, _, _, _, _⟩) rfl (by kernel_rfl) (fun K hK => ?_) AllTill.nil
                  go_simp
                  refine hK.out _ _ ?_
                  clear hK K
                  try simp only [Act.put, List.setIfInBounds_toArray, List.set_cons_zero, List.set_cons_succ]
                  refine wpTill_done (by kernel_rfl) ?_ _
                  go_wp2_with (first
                    | refine wpList_load_row rfl 46 (.tmp 6) rfl z rfl 46 _ (0, 0) _ (by exact HZS.out) Tryz.underlying46 rfl (by rw [sizeF]; rfl) ?_
                    | refine wpList_store_row rfl 46 (.tmp 4) (.tmp 100) rfl _ _ rfl rfl 46 #[.int .i64 0, .int .u64 0, .int .u64 0, .slice none 0 0, .bool false, .int .u64 0, .int .u64 0, .int .u64 0, .int .u64 0, .int .u64 0, .slice none 0 0,
    .int .u8 0, .int .u8 0, .int .u8 0, .int .u8 0, .int .u8 0, .int .u8 0, .int .u8 0, .int .u8 0] (by exact HYS.out) (by rw [sizeF]; rfl) rfl (by simp [Value.oneCell']) ?_)
                  (try simp only [Exit.inBlock, Exit.then])
                  refine bodyPost_ret (results_row_tmp rfl _ _ y 46 #[.int .i64 17, .int .u64 id, .int .u64 0, .slice none 0 0, .bool false, .int .u64 top, .int .u64 0, .int .u64 0, .int .u64 0, .int .u64 0, .slice none 0 0,
    .int .u8 0, .int .u8 0, .int .u8 0, .int .u8 0, .int .u8 0, .int .u8 0, .int .u8 0, .int .u8 0] (0, 0) _ rfl (setRow_heap _ y _ _ _ _ HYS.out) Tryz.underlying46 rfl (by rw [sizeF]; rfl)) rfl ?_
                  exact ⟨rfl, HRM.out⟩
                refine AllTill.consD (o := ⟨none, _, _, _, _, _⟩) rfl (by kernel_rfl) (fun K hK => ?_) ?_
                ·
                  go_simp
                  refine hK.out _ _ ?_
                  clear hK K
                  try simp only [Act.put, List.setIfInBounds_toArray, List.set_cons_zero, List.set_cons_succ]
                  refine wpTill_ready (rs := [1]) (by kernel_rfl) (by simp) ?_
                  refine AllTill.consD (o := ⟨some 88, _, _, _, _, _⟩) rfl (by kernel_rfl) (fun K hK => ?_) AllTill.nil
                  go_simp
                  refine hK.out _ _ ?_
                  clear hK K
                  try simp only [Act.put, List.setIfInBounds_toArray, List.set_cons_zero, List.set_cons_succ]
                  refine wpTill_take0 (i := 12) (oi := ⟨some 98, _, _, _, _, _⟩) (v := ?_) rfl (by kernel_rfl) (fun _ _ _ h => h) (Or.inl ⟨by rfl, ?_⟩) (fun h => Bool.noConfusion (h.symm.trans (show _ = true by kernel_rfl))) ?_
                  rotate_left
                  · intro w hSw
                    (try dsimp only at hSw)
                    go_simp
                    try with_reducible rfl
                  try simp only [Act.put, List.setIfInBounds_toArray, List.set_cons_zero, List.set_cons_succ]
                  refine wpTill_take0 (i := 13) (oi := ⟨some 99, _, _, _, _, _⟩) (v := ?_) rfl (by kernel_rfl) (fun _ _ _ h => h) (Or.inl ⟨by rfl, ?_⟩) (fun h => Bool.noConfusion (h.symm.trans (show _ = true by kernel_rfl))) ?_
                  rotate_left
                  · intro w hSw
                    (try dsimp only at hSw)
                    go_simp
                    try with_reducible rfl
                  try simp only [Act.put, List.setIfInBounds_toArray, List.set_cons_zero, List.set_cons_succ]
                  refine wpTill_ready (rs := [14]) (by kernel_rfl) (by simp) ?_
                  refine AllTill.consD (o := ⟨none, _, _, _, _, _⟩) rfl (by kernel_rfl) (fun K hK => ?_) AllTill.nil
                  go_simp
                  refine hK.out _ _ ?_
                  clear hK K
                  try simp only [Act.put, List.setIfInBounds_toArray, List.set_cons_zero, List.set_cons_succ]
                  refine wpTill_done (by kernel_rfl) ?_ _
                  go_wp2_with (first
                    | refine wpList_load_row rfl 46 (.tmp 6) rfl z rfl 46 _ (0, 0) _ (by exact HZS.out) Tryz.underlying46 rfl (by rw [sizeF]; rfl) ?_
                    | refine wpList_store_row rfl 46 (.tmp 4) (.tmp 100) rfl _ _ rfl rfl 46 #[.int .i64 0, .int .u64 0, .int .u64 0, .slice none 0 0, .bool false, .int .u64 0, .int .u64 0, .int .u64 0, .int .u64 0, .int .u64 0, .slice none 0 0,
    .int .u8 0, .int .u8 0, .int .u8 0, .int .u8 0, .int .u8 0, .int .u8 0, .int .u8 0, .int .u8 0] (by exact HYS.out) (by rw [sizeF]; rfl) rfl (by simp [Value.oneCell']) ?_)
                  (try simp only [Exit.inBlock, Exit.then])
                  refine bodyPost_ret (results_row_tmp rfl _ _ y 46 #[.int .i64 17, .int .u64 id, .int .u64 0, .slice none 0 0, .bool false, .int .u64 top, .int .u64 0, .int .u64 0, .int .u64 0, .int .u64 0, .slice none 0 0,
    .int .u8 0, .int .u8 0, .int .u8 0, .int .u8 0, .int .u8 0, .int .u8 0, .int .u8 0, .int .u8 0] (0, 0) _ rfl (setRow_heap _ y _ _ _ _ HYS.out) Tryz.underlying46 rfl (by rw [sizeF]; rfl)) rfl ?_
                  exact ⟨rfl, HRM.out⟩
                exact AllTill.nil
            · obtain rfl : (s, zeroF, false) = F := by
                have := HF3.out
                simpa using this
              have HRM := Lib.hid (show RM w (w4.setRow y #[.int .i64 0, .int .u64 0, .int .u64 0, .slice none 0 0, .bool false, .int .u64 0, .int .u64 0, .int .u64 0, .int .u64 0, .int .u64 0, .slice none 0 0,
    .int .u8 0, .int .u8 0, .int .u8 0, .int .u8 0, .int .u8 0, .int .u8 0, .int .u8 0, .int .u8 0]) fp r s from (RM.refl H.out).later (setRow_below HB4.out HY.out))
              go_wp2_with (refine wpList_store_row rfl 46 (.tmp 4) (.tmp 86) rfl _ _ rfl rfl 46 #[.int .i64 0, .int .u64 0, .int .u64 0, .slice none 0 0, .bool false, .int .u64 0, .int .u64 0, .int .u64 0, .int .u64 0, .int .u64 0, .slice none 0 0,
    .int .u8 0, .int .u8 0, .int .u8 0, .int .u8 0, .int .u8 0, .int .u8 0, .int .u8 0, .int .u8 0] (by exact HKY4.out) (by rw [sizeF]; rfl) rfl (by simp [Value.oneCell']) ?_)
              (try simp only [Exit.inBlock, Exit.then])
              refine bodyPost_ret (results_row_tmp rfl _ _ y 46 #[.int .i64 0, .int .u64 0, .int .u64 0, .slice none 0 0, .bool false, .int .u64 0, .int .u64 0, .int .u64 0, .int .u64 0, .int .u64 0, .slice none 0 0,
    .int .u8 0, .int .u8 0, .int .u8 0, .int .u8 0, .int .u8 0, .int .u8 0, .int .u8 0, .int .u8 0] (0, 0) _ rfl (setRow_heap _ y _ _ _ _ HKY4.out) Tryz.underlying46 rfl (by rw [sizeF]; rfl)) rfl ?_
              exact ⟨rfl, HRM.out⟩
end Go.Proofs.YtnneoeimgbemfaaGreat
