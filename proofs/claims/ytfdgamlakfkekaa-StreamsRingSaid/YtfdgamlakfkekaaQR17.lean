/- DERIVED. Walk of sender's Next, where no piece goes (printed by mksndnext2.py). -/
import Derived.Test.YtfdgamlakfkekaaQR16
set_option linter.all false
namespace Go.Proofs.Ytfdgamlakfkekaa
open Go.RowKit

set_option maxRecDepth 100000 in
set_option maxHeartbeats 4000000 in
theorem snext_no (r : Nat) (s : SS) (fp : Nat → Prop) (room : Int) (more most lim2 : Nat) (w : World) (h : SdAt w r s fp) (hst : s.st < 5) (hm : min room 512 = (most : Int) + 20) (hmore : more < 18446744073709551616)
    (hr1 : -9223372036854775808 ≤ room) (hr2 : room ≤ 9223372036854775807) (hl : min s.lim (s.os.sent + min more 1099511627776) = lim2)
    (hN : ∀ b fb W, OAt W b s.os fb → Calls Try.prog 74 #[.pointer (some ⟨b, 0, none⟩), .int .i64 most, .int .u64 lim2] W fun e w' => e = .returned (.tuple #[.int .u64 0, .slice none 0 0, .bool false, .bool false]) ∧ Below W.heap.size W w') :
    Calls Try.prog 47 #[.pointer (some ⟨r, 0, none⟩), .int .i64 room, .int .u64 more] w fun e w' => e = .returned (.tuple #[.agg (encF zeroF).toArray, .bool false]) ∧ Below w.heap.size w w' := by
  have H := Lib.hid h
  obtain ⟨b, fb, h0, hfp⟩ := h
  have H0 := Lib.hid h0
  have HFP := Lib.hid hfp
  have HB := Lib.hid h0.buf
  have HN := Lib.hid hN
  have hst1 := h0.ok.st
  have hlm := h0.ok.lim
  have c0 : w.cell? ⟨r, 0, none⟩ = some (.int .u64 s.id) := (cell_at h0.blk 0).trans rfl
  have c1 : w.cell? ⟨r, 1, none⟩ = some (.int .i64 s.st) := (cell_at h0.blk 1).trans rfl
  have c3 : w.cell? ⟨r, 3, none⟩ = some (.int .u64 s.lim) := (cell_at h0.blk 3).trans rfl
  have c24 : w.cell? ⟨r, 24, none⟩ = some (.pointer (some ⟨b, 0, none⟩)) := (cell_at h0.blk 24).trans rfl
  have hsn0 : s.os.sent ≤ 1099511627776 := by have := h0.buf.ok.sent; have := h0.buf.ok.len; omega
  obtain ⟨st, hste⟩ : ∃ st, s.st = st := ⟨_, rfl⟩
  obtain ⟨lim, hlme⟩ : ∃ lim, s.lim = lim := ⟨_, rfl⟩
  obtain ⟨sn, hsne⟩ : ∃ sn, s.os.sent = sn := ⟨_, rfl⟩
  obtain ⟨mm, hmme⟩ : ∃ mm, min more 1099511627776 = mm := ⟨_, rfl⟩
  rw [hsne, hmme, hlme] at hl
  rw [hlme] at c3 hlm
  rw [hste] at c1 hst hst1
  rw [hsne] at hsn0
  have HSTE := Lib.hid hste
  have HLME := Lib.hid hlme
  have HSN := Lib.hid hsne
  have HMM := Lib.hid (show (if (1099511627776 : Int) < (more : Int) then (1099511627776 : Int) else (more : Int)) = (mm : Int) by split <;> omega)
  have hmb : mm ≤ 1099511627776 := by omega
  obtain ⟨sm, hsm⟩ : ∃ sm : Nat, (sn : Int) + (mm : Int) = (sm : Int) := ⟨sn + mm, by omega⟩
  have hwa : IntKind.u64.wrap (sm : Int) = sm := IntWalk.u64_in _ (by omega)
  have HL2 := Lib.hid (show (if sm < lim then (sm : Int) else (lim : Int)) = (lim2 : Int) by split <;> omega)
  have hb20 : most ≤ 492 := by omega
  clear h0 hfp hN hste hlme hsne hmme hl
  go_enter Try.func47, Try.ntmps47
  go_upto_region 0 with fail
  go_cut [6] (fun v wx => ∃ y, v = .pointer (some ⟨y, 0, none⟩) ∧ w.heap.size ≤ y ∧ Below w.heap.size w wx ∧ wx.heap[y]? = some (.cells zcells 39 (0, 0)))
  case first =>
    go_wp2_with fail
    go_meet
    case rel => exact ⟨_, rfl, Nat.le_refl _, (Below.refl _ _).alloc (Nat.le_refl _) _, alloc_at _ _⟩
  case rest =>
    obtain ⟨y, rfl, hy, hb1, hky⟩ := hcut
    generalize wc = w1 at *
    have HKY := Lib.hid (show ∀ k, (w1.drewN k).heap[y]? = some (.cells zcells 39 (0, 0)) from fun k => hky)
    have HY := Lib.hid hy
    have HBW := Lib.hid (show ∀ k, Below w.heap.size w (w1.drewN k) from fun k => below_drewN hb1 k)
    have hrw := heap_lt H0.out.blk
    have d1 := cell_keep hb1 hrw c1
    have HSof := Lib.hid (show ∀ W, Below w.heap.size w W → W.cell? ⟨r, 24, none⟩ = some (.pointer (some ⟨b, 0, none⟩)) ∧ W.cell? ⟨r, 3, none⟩ = some (.int .u64 lim) from fun W hb => ⟨cell_keep hb hrw c24, cell_keep hb hrw c3⟩)
    clear hb1 hky c0 c1 c3 c24
    go_upto_region 1 with fail
    go_cut [1] (fun v wx => v = .int .i64 ((most : Int) + 20) ∧ wx = w1)
    case first =>
      by_cases h512 : 512 < room
      · obtain rfl : most = 492 := by omega
        go_wp2_with fail
        go_meet
        case rel => exact ⟨rfl, rfl⟩
      · obtain rfl : room = (most : Int) + 20 := by omega
        go_wp2_with fail
        go_meet
        case rel => exact ⟨rfl, rfl⟩
    case rest =>
      obtain ⟨rfl, rfl⟩ := hcut
      generalize wc = w1 at *
      have hst5 : ¬ (5 : Int) ≤ (st : Int) := by omega
      have h20 : ¬ (most : Int) + 20 < 20 := by omega
      have hw20 : IntKind.i64.wrap (most : Int) = most := IntWalk.i64_in _ (by omega)
      go_wp2_with fail
      go_cut [8, 9, 10, 11] (fun a v k o wx => o = .bool false ∧ Below w.heap.size w wx ∧ wx.heap[y]? = some (.cells zcells 39 (0, 0)))
      case first =>
        refine wp_region_till (S := fun w' => w'.cell? ⟨r, 24, none⟩ = some (.pointer (some ⟨b, 0, none⟩)) ∧ w'.cell? ⟨r, 3, none⟩ = some (.int .u64 lim)) [] (by kernel_rfl) (by exact HSof.out _ (HBW.out 1)) (fun hHeld => ?_)
        refine wpTill_take0 (i := 0) (oi := ⟨some 45, _, _, _, _, _⟩) (v := ?_) rfl (by kernel_rfl) (fun _ _ _ h => h) (Or.inl ⟨by rfl, ?_⟩) (fun _ => hHeld) ?_
        rotate_left
        · intro w hSw
          (try dsimp only at hSw)
          go_simp
          try with_reducible rfl
        try simp only [Act.put, List.setIfInBounds_toArray, List.set_cons_zero, List.set_cons_succ]
        refine wpTill_take0 (i := 1) (oi := ⟨some 46, _, _, _, _, _⟩) (v := ?_) rfl (by kernel_rfl) (fun _ _ _ h => h) (Or.inl ⟨by rfl, ?_⟩) (fun _ => hHeld) ?_
        rotate_left
        · intro w hSw
          (try dsimp only at hSw)
          go_simp
          try with_reducible rfl
        try simp only [Act.put, List.setIfInBounds_toArray, List.set_cons_zero, List.set_cons_succ]
        refine wpTill_take0 (i := 2) (oi := ⟨some 47, _, _, _, _, _⟩) (v := ?_) rfl (by kernel_rfl) (fun _ _ _ h => h) (Or.inl ⟨by rfl, ?_⟩) (fun _ => hHeld) ?_
        rotate_left
        · intro w hSw
          (try dsimp only at hSw)
          go_simp
          try with_reducible rfl
        try simp only [Act.put, List.setIfInBounds_toArray, List.set_cons_zero, List.set_cons_succ]
        refine wpTill_take (i := 3) (oi := ⟨some 48, _, _, _, _, _⟩) (v := ?_) rfl (by kernel_rfl) (fun _ _ _ h => h) (Or.inl ⟨by rfl, ?_⟩) (by exact hHeld) ?_
        rotate_left
        · intro w hSw
          (try dsimp only at hSw)
          go_simp
          try with_reducible rfl
        try simp only [Act.put, List.setIfInBounds_toArray, List.set_cons_zero, List.set_cons_succ]
        refine wpTill_take0 (i := 4) (oi := ⟨some 49, _, _, _, _, _⟩) (v := ?_) rfl (by kernel_rfl) (fun _ _ _ h => h) (Or.inl ⟨by rfl, ?_⟩) (fun _ => hHeld) ?_
        rotate_left
        · intro w hSw
          (try dsimp only at hSw)
          go_simp
          try with_reducible rfl
        try simp only [Act.put, List.setIfInBounds_toArray, List.set_cons_zero, List.set_cons_succ]
        refine wpTill_take0 (i := 5) (oi := ⟨some 50, _, _, _, _, _⟩) (v := ?_) rfl (by kernel_rfl) (fun _ _ _ h => h) (Or.inl ⟨by rfl, ?_⟩) (fun _ => hHeld) ?_
        rotate_left
        · intro w hSw
          (try dsimp only at hSw)
          go_simp
          try with_reducible rfl
        try simp only [Act.put, List.setIfInBounds_toArray, List.set_cons_zero, List.set_cons_succ]
        refine wpTill_take0 (i := 6) (oi := ⟨some 51, _, _, _, _, _⟩) (v := ?_) rfl (by kernel_rfl) (fun _ _ _ h => h) (Or.inl ⟨by rfl, ?_⟩) (fun _ => hHeld) ?_
        rotate_left
        · intro w hSw
          (try dsimp only at hSw)
          go_simp
          try with_reducible rfl
        try simp only [Act.put, List.setIfInBounds_toArray, List.set_cons_zero, List.set_cons_succ]
        refine wpTill_take0 (i := 7) (oi := ⟨some 52, _, _, _, _, _⟩) (v := ?_) rfl (by kernel_rfl) (fun _ _ _ h => h) (Or.inl ⟨by rfl, ?_⟩) (fun _ => hHeld) ?_
        rotate_left
        · intro w hSw
          (try dsimp only at hSw)
          go_simp
          try with_reducible rfl
        try simp only [Act.put, List.setIfInBounds_toArray, List.set_cons_zero, List.set_cons_succ]
        refine wpTill_take0 (i := 8) (oi := ⟨some 53, _, _, _, _, _⟩) (v := ?_) rfl (by kernel_rfl) (fun _ _ _ h => h) (Or.inl ⟨by rfl, ?_⟩) (fun _ => hHeld) ?_
        rotate_left
        · intro w hSw
          (try dsimp only at hSw)
          go_simp
          try with_reducible rfl
        try simp only [Act.put, List.setIfInBounds_toArray, List.set_cons_zero, List.set_cons_succ]
        refine wpTill_take (i := 9) (oi := ⟨some 54, _, _, _, _, _⟩) (v := ?_) rfl (by kernel_rfl) (fun _ _ _ h => h) (Or.inl ⟨by rfl, ?_⟩) (by exact hHeld) ?_
        rotate_left
        · intro w hSw
          (try dsimp only at hSw)
          go_simp
          try with_reducible rfl
        try simp only [Act.put, List.setIfInBounds_toArray, List.set_cons_zero, List.set_cons_succ]
        refine wpTill_take0 (i := 10) (oi := ⟨some 55, _, _, _, _, _⟩) (v := ?_) rfl (by kernel_rfl) (fun _ _ _ h => h) (Or.inl ⟨by rfl, ?_⟩) (fun _ => hHeld) ?_
        rotate_left
        · intro w hSw
          (try dsimp only at hSw)
          go_simp
          try with_reducible rfl
        try simp only [Act.put, List.setIfInBounds_toArray, List.set_cons_zero, List.set_cons_succ]
        refine wpTill_take0 (i := 12) (oi := ⟨some 57, _, _, _, _, _⟩) (v := ?_) rfl (by kernel_rfl) (fun _ _ _ h => h) (Or.inl ⟨by rfl, ?_⟩) (fun _ => hHeld) ?_
        rotate_left
        · intro w hSw
          (try dsimp only at hSw)
          go_simp
          try with_reducible rfl
        try simp only [Act.put, List.setIfInBounds_toArray, List.set_cons_zero, List.set_cons_succ]
        refine wpTill_take0 (i := 13) (oi := ⟨some 58, _, _, _, _, _⟩) (v := .int .u64 mm) rfl (by kernel_rfl) (fun _ _ _ h => h) (Or.inl ⟨by rfl, ?_⟩) (fun _ => hHeld) ?_
        · intro w hSw
          go_simp
          rw [HMM.out]
        try simp only [Act.put, List.setIfInBounds_toArray, List.set_cons_zero, List.set_cons_succ]
        refine wpTill_ready (rs := [11]) (by kernel_rfl) (by simp) ?_
        refine AllTill.cons (o := ⟨some 56, _, _, _, _, _⟩) rfl (fun K hK => ?_) AllTill.nil
        go_simp
        go_at_call 55
        refine (ssent_q r s fp _ (by exact H.out.below (HBW.out _))).mono ?_
        rw [HSN.out]
        rintro e W8 ⟨rfl, q8, rfl⟩
        go_wp2_with fail
        refine hK.out _ _ (by exact HSof.out _ (HBW.out _)) (fun hHeld => ?_)
        clear hK K
        try simp only [Act.put, List.setIfInBounds_toArray, List.set_cons_zero, List.set_cons_succ]
        refine wpTill_take0 (i := 14) (oi := ⟨some 59, _, _, _, _, _⟩) (v := ?_) rfl (by kernel_rfl) (fun _ _ _ h => h) (Or.inl ⟨by rfl, ?_⟩) (fun _ => hHeld) ?_
        rotate_left
        · intro w hSw
          (try dsimp only at hSw)
          go_simp
          try with_reducible rfl
        try simp only [Act.put, List.setIfInBounds_toArray, List.set_cons_zero, List.set_cons_succ]
        refine wpTill_take0 (i := 15) (oi := ⟨some 60, _, _, _, _, _⟩) (v := .int .u64 lim2) rfl (by kernel_rfl) (fun _ _ _ h => h) (Or.inl ⟨by rfl, ?_⟩) (fun _ => hHeld) ?_
        · intro w hSw
          go_simp
          rw [HL2.out]
        try simp only [Act.put, List.setIfInBounds_toArray, List.set_cons_zero, List.set_cons_succ]
        refine wpTill_ready (rs := [16]) (by kernel_rfl) (by simp) ?_
        refine AllTill.cons (o := ⟨some 61, _, _, _, _, _⟩) rfl (fun K hK => ?_) AllTill.nil
        go_simp
        go_at_call 74
        refine (HN.out b fb _ (by exact HB.out.below (HBW.out _))).mono ?_
        rintro e W16 ⟨rfl, hm⟩
        have HM16 := Lib.hid (below_call (HBW.out _) (HBW.out _).size hm)
        have HK16 := Lib.hid (below_keeps hm (HKY.out _) (heap_lt (HKY.out _)))
        clear hm
        go_wp2_with fail
        refine hK.out _ _ (by exact HSof.out _ HM16.out) (fun hHeld => ?_)
        clear hK K
        try simp only [Act.put, List.setIfInBounds_toArray, List.set_cons_zero, List.set_cons_succ]
        refine wpTill_take0 (i := 17) (oi := ⟨some 44, _, _, _, _, _⟩) (v := ?_) rfl (by kernel_rfl) (fun _ _ _ h => h) (Or.inl ⟨by rfl, ?_⟩) (fun _ => hHeld) ?_
        rotate_left
        · intro w hSw
          (try dsimp only at hSw)
          go_simp
          try with_reducible rfl
        try simp only [Act.put, List.setIfInBounds_toArray, List.set_cons_zero, List.set_cons_succ]
        refine wpTill_take0 (i := 18) (oi := ⟨some 62, _, _, _, _, _⟩) (v := ?_) rfl (by kernel_rfl) (fun _ _ _ h => h) (Or.inl ⟨by rfl, ?_⟩) (fun _ => hHeld) ?_
        rotate_left
        · intro w hSw
          (try dsimp only at hSw)
          go_simp
          try with_reducible rfl
        try simp only [Act.put, List.setIfInBounds_toArray, List.set_cons_zero, List.set_cons_succ]
        refine wpTill_take0 (i := 19) (oi := ⟨some 63, _, _, _, _, _⟩) (v := ?_) rfl (by kernel_rfl) (fun _ _ _ h => h) (Or.inl ⟨by rfl, ?_⟩) (fun _ => hHeld) ?_
        rotate_left
        · intro w hSw
          (try dsimp only at hSw)
          go_simp
          try with_reducible rfl
        try simp only [Act.put, List.setIfInBounds_toArray, List.set_cons_zero, List.set_cons_succ]
        refine wpTill_take0 (i := 20) (oi := ⟨some 64, _, _, _, _, _⟩) (v := ?_) rfl (by kernel_rfl) (fun _ _ _ h => h) (Or.inl ⟨by rfl, ?_⟩) (fun _ => hHeld) ?_
        rotate_left
        · intro w hSw
          (try dsimp only at hSw)
          go_simp
          try with_reducible rfl
        try simp only [Act.put, List.setIfInBounds_toArray, List.set_cons_zero, List.set_cons_succ]
        refine wpTill_take0 (i := 21) (oi := ⟨some 65, _, _, _, _, _⟩) (v := ?_) rfl (by kernel_rfl) (fun _ _ _ h => h) (Or.inl ⟨by rfl, ?_⟩) (fun _ => hHeld) ?_
        rotate_left
        · intro w hSw
          (try dsimp only at hSw)
          go_simp
          try with_reducible rfl
        try simp only [Act.put, List.setIfInBounds_toArray, List.set_cons_zero, List.set_cons_succ]
        refine wpTill_take0 (i := 22) (oi := ⟨some 8, _, _, _, _, _⟩) (v := ?_) rfl (by kernel_rfl) (fun _ _ _ h => h) (Or.inl ⟨by rfl, ?_⟩) (fun _ => hHeld) ?_
        rotate_left
        · intro w hSw
          (try dsimp only at hSw)
          go_simp
          try with_reducible rfl
        try simp only [Act.put, List.setIfInBounds_toArray, List.set_cons_zero, List.set_cons_succ]
        refine wpTill_take0 (i := 23) (oi := ⟨some 9, _, _, _, _, _⟩) (v := ?_) rfl (by kernel_rfl) (fun _ _ _ h => h) (Or.inl ⟨by rfl, ?_⟩) (fun _ => hHeld) ?_
        rotate_left
        · intro w hSw
          (try dsimp only at hSw)
          go_simp
          try with_reducible rfl
        try simp only [Act.put, List.setIfInBounds_toArray, List.set_cons_zero, List.set_cons_succ]
        refine wpTill_take0 (i := 24) (oi := ⟨some 10, _, _, _, _, _⟩) (v := ?_) rfl (by kernel_rfl) (fun _ _ _ h => h) (Or.inl ⟨by rfl, ?_⟩) (fun _ => hHeld) ?_
        rotate_left
        · intro w hSw
          (try dsimp only at hSw)
          go_simp
          try with_reducible rfl
        try simp only [Act.put, List.setIfInBounds_toArray, List.set_cons_zero, List.set_cons_succ]
        refine wpTill_take0 (i := 25) (oi := ⟨some 11, _, _, _, _, _⟩) (v := ?_) rfl (by kernel_rfl) (fun _ _ _ h => h) (Or.inl ⟨by rfl, ?_⟩) (fun _ => hHeld) ?_
        rotate_left
        · intro w hSw
          (try dsimp only at hSw)
          go_simp
          try with_reducible rfl
        try simp only [Act.put, List.setIfInBounds_toArray, List.set_cons_zero, List.set_cons_succ]
        refine wpTill_done (by kernel_rfl) ?_ _
        go_wp2_with fail
        go_meet
        case rel => exact ⟨rfl, HM16.out, HK16.out⟩
      case rest =>
        obtain ⟨rfl, hb2, hk2⟩ := hcut
        generalize wc = w2 at *
        have HYK := Lib.hid hk2
        have HB2 := Lib.hid hb2
        clear hb2 hk2 HSof HBW HKY HN hst5 h20 hw20 hwa HL2 HMM hsm
        go_wp2_with (refine wpList_store_row rfl 39 (.tmp 6) (.tmp 68) rfl _ _ rfl rfl 39 zcells (by exact HYK.out) (by rw [sizeF]; rfl) rfl (by simp [Value.oneCell']) ?_)
        (try simp only [Exit.inBlock, Exit.then])
        refine bodyPost_ret (results_row_tmp rfl _ _ y 39 zcells (0, 0) _ rfl (setRow_heap _ y _ _ _ _ HYK.out) Try.underlying39 rfl (by rw [sizeF]; rfl)) rfl ?_
        exact ⟨rfl, setRow_below HB2.out HY.out⟩
end Go.Proofs.Ytfdgamlakfkekaa

/- DERIVED. Walk of sender's Next behind a Reset, and where there is no room. -/
namespace Go.Proofs.Ytfdgamlakfkekaa
open Go.RowKit

def size4 (f : Fr) : Nat := if right4 f then (bytes4 f).length else 0
theorem size4_int (f : Fr) : (if right4 f then ((bytes4 f).length : Int) else 0) = (size4 f : Int) := by unfold size4; split <;> rfl
theorem size4_le (f : Fr) : size4 f ≤ 32 := by
  unfold size4
  split
  · unfold bytes4
    rw [List.length_append, varB_len]
    have h1 := vsize_le 4
    have h2 := varsB_len [f.sid, f.code, f.fnl]
    simp only [List.length_cons, List.length_nil] at h2
    omega
  · omega
theorem range_row {w : World} {b : Nat} {t : TypeId} {cs : Array Value} {z : Nat × Nat} (h : w.heap[b]? = some (.cells cs t z)) {o : Nat} {l : List Value} (hl : ∀ j v, l[j]? = some v → cs[o + j]? = some v) : w.rangeAt b o l := fun j v hv => by
  rw [cell_at h]
  exact hl j v hv
theorem SdAt0.reset_range {w : World} {r b : Nat} {s : SS} {fb : Nat → Prop} (h : SdAt0 w r s b fb) : w.rangeAt r 4 (encF (resetF s.id s.rs)) := range_row h.blk (fun j v hv => by
  rw [scells_eq]
  have hj : j < 19 := by
    have := (List.getElem?_eq_some_iff.1 hv).1
    exact this
  show (([Value.int .u64 s.id, .int .i64 s.st, .bool s.os.fi, .int .u64 s.lim] ++ encF (resetF s.id s.rs) ++ [Value.bool s.rq, .pointer (some ⟨b, 0, none⟩)]).toArray)[4 + j]? = some v
  rw [List.getElem?_toArray, List.append_assoc, List.getElem?_append_right (by show 4 ≤ 4 + j; omega), show 4 + j - [Value.int .u64 s.id, .int .i64 s.st, .bool s.os.fi, .int .u64 s.lim].length = j by show 4 + j - 4 = j; omega, List.getElem?_append_left (by show j < 19; exact hj)]
  exact hv)
set_option maxRecDepth 100000 in
set_option maxHeartbeats 2000000 in
theorem snext_few (r : Nat) (s : SS) (fp : Nat → Prop) (room : Int) (more : Nat) (w : World) (h : SdAt w r s fp) (hst : s.st < 5) (hm : min room 512 < 20) :
    Calls Try.prog 47 #[.pointer (some ⟨r, 0, none⟩), .int .i64 room, .int .u64 more] w fun e w' => e = .returned (.tuple #[.agg (encF zeroF).toArray, .bool false]) ∧ Below w.heap.size w w' := by
  obtain ⟨b, fb, h0, hfp⟩ := h
  have c1 : w.cell? ⟨r, 1, none⟩ = some (.int .i64 s.st) := (cell_at h0.blk 1).trans rfl
  have hrw := heap_lt h0.blk
  obtain ⟨st, hste⟩ : ∃ st, s.st = st := ⟨_, rfl⟩
  rw [hste] at c1 hst
  clear h0 hfp hste
  have hroom : room < 20 := by omega
  have hroom2 : ¬ (512 : Int) < room := by omega
  have hst5 : ¬ (5 : Int) ≤ (st : Int) := by omega
  go_enter Try.func47, Try.ntmps47
  go_upto_region 0 with fail
  go_cut [6] (fun v wx => ∃ y, v = .pointer (some ⟨y, 0, none⟩) ∧ w.heap.size ≤ y ∧ Below w.heap.size w wx ∧ wx.heap[y]? = some (.cells zcells 39 (0, 0)))
  case first =>
    go_wp2_with fail
    go_meet
    case rel => exact ⟨_, rfl, Nat.le_refl _, (Below.refl _ _).alloc (Nat.le_refl _) _, alloc_at _ _⟩
  case rest =>
    obtain ⟨y, rfl, hy, hb1, hky⟩ := hcut
    generalize wc = w1 at *
    have HYK := Lib.hid hky
    have d1 := cell_keep hb1 hrw c1
    have HB := Lib.hid (And.intro hb1 hy)
    clear hky hb1 hy c1
    go_wp2_with (refine wpList_store_row rfl 39 (.tmp 6) (.tmp 43) rfl _ _ rfl rfl 39 zcells (by exact HYK.out) (by rw [sizeF]; rfl) rfl (by simp [Value.oneCell']) ?_)
    (try simp only [Exit.inBlock, Exit.then])
    refine bodyPost_ret (results_row_tmp rfl _ _ y 39 zcells (0, 0) _ rfl (setRow_heap _ y _ _ _ _ HYK.out) Try.underlying39 rfl (by rw [sizeF]; rfl)) rfl ?_
    exact ⟨rfl, setRow_below HB.out.1 HB.out.2⟩
set_option maxRecDepth 100000 in
set_option maxHeartbeats 2000000 in
/-- The Reset was told already, or there is no room for it. -/
theorem snext_rno (r : Nat) (s : SS) (fp : Nat → Prop) (room : Int) (more : Nat) (w : World) (h : SdAt w r s fp) (hst : 5 ≤ s.st) (hm : s.rq = true → ∃ x, s.rs = some x ∧ min room 512 < size4 (resetF s.id s.rs)) (hr1 : -9223372036854775808 ≤ room) (hr2 : room ≤ 9223372036854775807) :
    Calls Try.prog 47 #[.pointer (some ⟨r, 0, none⟩), .int .i64 room, .int .u64 more] w fun e w' => e = .returned (.tuple #[.agg (encF zeroF).toArray, .bool false]) ∧ Below w.heap.size w w' := by
  obtain ⟨b, fb, h0, hfp⟩ := h
  have c1 : w.cell? ⟨r, 1, none⟩ = some (.int .i64 s.st) := (cell_at h0.blk 1).trans rfl
  have c23 : w.cell? ⟨r, 23, none⟩ = some (.bool s.rq) := (cell_at h0.blk 23).trans rfl
  have hrw := heap_lt h0.blk
  have HRG := Lib.hid h0.reset_range
  have HOK := Lib.hid h0.ok
  obtain ⟨st, hste⟩ : ∃ st, s.st = st := ⟨_, rfl⟩
  obtain ⟨rq, hrqe⟩ : ∃ rq, s.rq = rq := ⟨_, rfl⟩
  rw [hste] at c1 hst
  rw [hrqe] at c23 hm
  clear h0 hfp hste hrqe
  obtain ⟨rm, hrm⟩ : ∃ rm : Int, min room 512 = rm := ⟨_, rfl⟩
  rw [hrm] at hm
  have HM := Lib.hid hm
  clear hm
  have hst5 : (5 : Int) ≤ (st : Int) := by omega
  go_enter Try.func47, Try.ntmps47
  go_upto_region 0 with fail
  go_cut [6] (fun v wx => ∃ y, v = .pointer (some ⟨y, 0, none⟩) ∧ w.heap.size ≤ y ∧ Below w.heap.size w wx ∧ wx.heap[y]? = some (.cells zcells 39 (0, 0)))
  case first =>
    go_wp2_with fail
    go_meet
    case rel => exact ⟨_, rfl, Nat.le_refl _, (Below.refl _ _).alloc (Nat.le_refl _) _, alloc_at _ _⟩
  case rest =>
    obtain ⟨y, rfl, hy, hb1, hky⟩ := hcut
    generalize wc = w1 at *
    have d1 := cell_keep hb1 hrw c1
    have d23 := cell_keep hb1 hrw c23
    have HRG1 := Lib.hid (show w1.rangeAt r 4 (encF (resetF s.id s.rs)) from fun j v hv => cell_keep hb1 hrw (HRG.out j v hv))
    have HYK := Lib.hid hky
    have HB := Lib.hid (And.intro hb1 hy)
    clear hky hb1 hy c1 c23
    go_upto_region 1 with fail
    go_cut [1] (fun v wx => v = .int .i64 rm ∧ wx = w1)
    case first =>
      by_cases h512 : 512 < room
      · obtain rfl : rm = 512 := by omega
        go_wp2_with fail
        go_meet
        case rel => exact ⟨rfl, rfl⟩
      · obtain rfl : room = rm := by omega
        go_wp2_with fail
        go_meet
        case rel => exact ⟨rfl, rfl⟩
    case rest =>
      obtain ⟨rfl, rfl⟩ := hcut
      generalize wc = w1 at *
      cases rq
      · go_wp2_with (refine wpList_store_row rfl 39 (.tmp 6) (.tmp 33) rfl _ _ rfl rfl 39 zcells (by exact HYK.out) (by rw [sizeF]; rfl) rfl (by simp [Value.oneCell']) ?_)
        (try simp only [Exit.inBlock, Exit.then])
        refine bodyPost_ret (results_row_tmp rfl _ _ y 39 zcells (0, 0) _ rfl (setRow_heap _ y _ _ _ _ HYK.out) Try.underlying39 rfl (by rw [sizeF]; rfl)) rfl ?_
        exact ⟨rfl, setRow_below HB.out.1 HB.out.2⟩
      · go_wp2_with (refine BigFrame.wpList_want (by rfl) (fun K hK => wp_load_mid 39 (.tmp 28) rfl r 4 rfl (encF (resetF s.id s.rs)) _ (by exact HRG1.out) Try.underlying39 rfl (by rw [sizeF]; rfl) (hK _ _ ?_)))
        obtain ⟨x, hx, hsz⟩ := HM.out (by first | rfl | trivial)
        have hrs := HOK.out.rs x hx
        have hid := HOK.out.id
        obtain ⟨z, hz⟩ : ∃ z, size4 (resetF s.id s.rs) = z := ⟨_, rfl⟩
        rw [hz] at hsz
        have HZ := Lib.hid hz
        refine (size_4 (resetF s.id s.rs) _ (by rw [hx]; rfl) (by rw [hx]; exact ⟨⟨by show (-9223372036854775808 : Int) ≤ 4; omega, by show (4 : Int) ≤ _; omega⟩, hid, by show 0 < _; omega, by show 0 < _; omega, hrs.1, hrs.2⟩) (by rw [hx]; show 0 < _; omega) (od := none) (ln := 0) (cd := 0) (od2 := none) (ln2 := 0) (cd2 := 0) (by rw [hx]; rfl) (by rw [hx]; rfl)).mono ?_
        rw [size4_int, HZ.out]
        rintro e w2 ⟨rfl, hb2⟩
        clear hz
        have HYK2 := Lib.hid (below_keeps hb2 HYK.out (heap_lt HYK.out))
        have HB2 := Lib.hid (below_call HB.out.1 HB.out.1.size hb2)
        clear hb2
        go_wp2_with (refine wpList_store_row rfl 39 (.tmp 6) (.tmp 33) rfl _ _ rfl rfl 39 zcells (by exact HYK2.out) (by rw [sizeF]; rfl) rfl (by simp [Value.oneCell']) ?_)
        (try simp only [Exit.inBlock, Exit.then])
        refine bodyPost_ret (results_row_tmp rfl _ _ y 39 zcells (0, 0) _ rfl (setRow_heap _ y _ _ _ _ HYK2.out) Try.underlying39 rfl (by rw [sizeF]; rfl)) rfl ?_
        exact ⟨rfl, setRow_below HB2.out HB.out.2⟩
set_option maxRecDepth 100000 in
set_option maxHeartbeats 2000000 in
/-- The Reset is told. -/
theorem snext_rst (r : Nat) (s : SS) (fp : Nat → Prop) (room : Int) (more : Nat) (w : World) (h : SdAt w r s fp) (hst : 5 ≤ s.st) (hq : s.rq = true) (hm : ∃ x, s.rs = some x ∧ (size4 (resetF s.id s.rs) : Int) ≤ min room 512) (hr1 : -9223372036854775808 ≤ room) (hr2 : room ≤ 9223372036854775807) :
    Calls Try.prog 47 #[.pointer (some ⟨r, 0, none⟩), .int .i64 room, .int .u64 more] w fun e w' => e = .returned (.tuple #[.agg (encF (resetF s.id s.rs)).toArray, .bool true]) ∧ SdM w w' fp r { s with rq := false } := by
  have H := Lib.hid h
  obtain ⟨b, fb, h0, hfp⟩ := h
  have c1 : w.cell? ⟨r, 1, none⟩ = some (.int .i64 s.st) := (cell_at h0.blk 1).trans rfl
  have c23 : w.cell? ⟨r, 23, none⟩ = some (.bool s.rq) := (cell_at h0.blk 23).trans rfl
  have hrw := heap_lt h0.blk
  have HRG := Lib.hid h0.reset_range
  have HOK := Lib.hid h0.ok
  obtain ⟨st, hste⟩ : ∃ st, s.st = st := ⟨_, rfl⟩
  rw [hste] at c1 hst
  rw [hq] at c23
  have f23 := free_at h0.blk 23
  clear h0 hfp hste hq
  obtain ⟨rm, hrm⟩ : ∃ rm : Int, min room 512 = rm := ⟨_, rfl⟩
  rw [hrm] at hm
  have HM := Lib.hid hm
  clear hm
  have hst5 : (5 : Int) ≤ (st : Int) := by omega
  go_enter Try.func47, Try.ntmps47
  go_upto_region 0 with fail
  go_cut [6] (fun v wx => ∃ y, v = .pointer (some ⟨y, 0, none⟩) ∧ w.heap.size ≤ y ∧ Below w.heap.size w wx ∧ wx.heap[y]? = some (.cells zcells 39 (0, 0)))
  case first =>
    go_wp2_with fail
    go_meet
    case rel => exact ⟨_, rfl, Nat.le_refl _, (Below.refl _ _).alloc (Nat.le_refl _) _, alloc_at _ _⟩
  case rest =>
    obtain ⟨y, rfl, hy, hb1, hky⟩ := hcut
    generalize wc = w1 at *
    have d1 := cell_keep hb1 hrw c1
    have d23 := cell_keep hb1 hrw c23
    have HRG1 := Lib.hid (show w1.rangeAt r 4 (encF (resetF s.id s.rs)) from fun j v hv => cell_keep hb1 hrw (HRG.out j v hv))
    have HYK := Lib.hid hky
    have HB := Lib.hid (And.intro hb1 hy)
    clear hky hb1 hy c1 c23
    go_upto_region 1 with fail
    go_cut [1] (fun v wx => v = .int .i64 rm ∧ wx = w1)
    case first =>
      by_cases h512 : 512 < room
      · obtain rfl : rm = 512 := by omega
        go_wp2_with fail
        go_meet
        case rel => exact ⟨rfl, rfl⟩
      · obtain rfl : room = rm := by omega
        go_wp2_with fail
        go_meet
        case rel => exact ⟨rfl, rfl⟩
    case rest =>
      obtain ⟨rfl, rfl⟩ := hcut
      generalize wc = w1 at *
      go_wp2_with (refine BigFrame.wpList_want (by rfl) (fun K hK => wp_load_mid 39 (.tmp 28) rfl r 4 rfl (encF (resetF s.id s.rs)) _ (by exact HRG1.out) Try.underlying39 rfl (by rw [sizeF]; rfl) (hK _ _ ?_)))
      obtain ⟨x, hx, hsz⟩ := HM.out
      have hrs := HOK.out.rs x hx
      have hid := HOK.out.id
      obtain ⟨z, hz⟩ : ∃ z, size4 (resetF s.id s.rs) = z := ⟨_, rfl⟩
      rw [hz] at hsz
      have HZ := Lib.hid hz
      refine (size_4 (resetF s.id s.rs) _ (by rw [hx]; rfl) (by rw [hx]; exact ⟨⟨by show (-9223372036854775808 : Int) ≤ 4; omega, by show (4 : Int) ≤ _; omega⟩, hid, by show 0 < _; omega, by show 0 < _; omega, hrs.1, hrs.2⟩) (by rw [hx]; show 0 < _; omega) (od := none) (ln := 0) (cd := 0) (od2 := none) (ln2 := 0) (cd2 := 0) (by rw [hx]; rfl) (by rw [hx]; rfl)).mono ?_
      rw [size4_int, HZ.out]
      rintro e w2 ⟨rfl, hb2⟩
      clear hz
      have hlt : ¬ rm < (z : Int) := by omega
      have HM2 := Lib.hid (show SdM w (w2.setCell ⟨r, 23, none⟩ (.bool false)) fp r { s with rq := false } from ((SdM.refl H.out).later (below_call HB.out.1 HB.out.1.size hb2)).setRq false)
      have hr1 : r < w1.heap.size := by have := HB.out.1.size; omega
      have g23 : w2.frozen? ⟨r, 23, none⟩ = false := ((SdM.refl H.out).later (below_call HB.out.1 HB.out.1.size hb2)).cell1.2.2.2
      have e23 := cell_keep hb2 hr1 d23
      have hyr : ¬ y = r := by have := HB.out.2; omega
      have hyk2 := below_keeps hb2 HYK.out (heap_lt HYK.out)
      have HYK2 := Lib.hid (show (w2.setCell ⟨r, 23, none⟩ (.bool false)).heap[y]? = some (.cells zcells 39 (0, 0)) from ((Upd.refl (fun j => j = r) w2).setCell ⟨r, 23, none⟩ (.inl rfl) _).keeps hyk2 hyr)
      have HRG2 := Lib.hid (show (w2.setCell ⟨r, 23, none⟩ (.bool false)).rangeAt r 4 (encF (resetF s.id s.rs)) from by
        refine World.rangeAt_setCells_apart (fun j v hv => cell_keep hb2 hr1 (HRG1.out j v hv)) r 23 [.bool false] (.inr (.inl (by show 4 + 19 ≤ 23; omega))))
      have HFO := Lib.hid (show (encF (resetF s.id s.rs)).toArray.all (·.oneCell') = true from by rw [hx]; simp [encF, resetF, Value.oneCell'])
      have hyf := HB.out.2
      have hb02 := below_call HB.out.1 HB.out.1.size hb2
      have HEND := Lib.hid (show ∀ cs, SdM w ((w2.setCell ⟨r, 23, none⟩ (.bool false)).setRow y cs) fp r { s with rq := false } from fun cs => by
        obtain ⟨b', fb', h0', hfp'⟩ := H.out
        have hu0 : Upd (fun j => j = r) w2 (w2.setCell ⟨r, 23, none⟩ (.bool false)) := (Upd.refl (fun j => j = r) w2).setCell ⟨r, 23, none⟩ (.inl rfl) _
        have hu1 : Upd (fun j => j = y) (w2.setCell ⟨r, 23, none⟩ (.bool false)) ((w2.setCell ⟨r, 23, none⟩ (.bool false)).setRow y cs) := (Upd.refl (fun j => j = y) _).setRowN y (.inl rfl) cs
        have hu : Upd (fun j => j = r ∨ j = y) w2 ((w2.setCell ⟨r, 23, none⟩ (.bool false)).setRow y cs) := hu0.trans hu1 (fun _ _ e => .inl e) (fun _ _ e => .inr e)
        have hlt := h0'.buf.lt.2
        have hk2 := below_keeps hb02 h0'.blk (heap_lt h0'.blk)
        refine ⟨fp, ⟨b', fb', ⟨hu1.keeps (set_at hk2 23 (.bool false)) (fun e => hyr e.symm), (h0'.buf.below hb02).keeps hu (fun k hk e => ?_), h0'.ne, ⟨h0'.ok.id, h0'.ok.st, h0'.ok.lim, h0'.ok.rs⟩⟩, hfp'⟩, ⟨(Upd.below hb02).trans hu (fun i hi e => by omega) (fun i hi e => ?_), fun k q => .inl q⟩⟩
        · rcases e with e | e
          · exact h0'.ne (e ▸ hk)
          · have := hlt k hk; omega
        · rcases e with e | e
          · rw [hfp']; exact .inl e
          · omega)
      clear hb2 hyk2 hx hb02
      go_wp2_with (first
        | refine wpList_load_mid rfl 39 (.tmp 39) rfl r 4 rfl (encF (resetF s.id s.rs)) _ (by exact HRG2.out) Try.underlying39 rfl (by rw [sizeF]; rfl) ?_
        | refine wpList_store_row rfl 39 (.tmp 6) (.tmp 40) rfl _ _ rfl rfl 39 zcells (by exact HYK2.out) (by rw [sizeF]; rfl) rfl (by exact HFO.out) ?_)
      (try simp only [Exit.inBlock, Exit.then])
      refine bodyPost_ret (results_row_tmp rfl _ _ y 39 (encF (resetF s.id s.rs)).toArray (0, 0) _ rfl (setRow_heap _ y _ _ _ _ HYK2.out) Try.underlying39 rfl (by rw [sizeF]; rfl)) rfl ?_
      exact ⟨rfl, HEND.out _⟩
end Go.Proofs.Ytfdgamlakfkekaa

/- DERIVED. sender's Next, whatever it tells. -/
namespace Go.Proofs.Ytfdgamlakfkekaa
open Go.RowKit

/-- What a sender's Next tells. -/
inductive NF where
  | none
  | rst
  | piece (off len : Nat) (fin : Bool)
def OS.nxt (s : OS) (m lim : Nat) : Option (Nat × Nat × Bool × OS) :=
  if (s.part lim).1 < min (s.part lim).2 ((s.part lim).1 + m) then
    some ((s.part lim).1, min (s.part lim).2 ((s.part lim).1 + m) - (s.part lim).1, decide (min (s.part lim).2 ((s.part lim).1 + m) = s.B.length) && s.ende, s.went (s.part lim).1 (min (s.part lim).2 ((s.part lim).1 + m)))
  else if s.ys = [] ∧ s.sent = s.B.length ∧ s.ende = true then some (s.B.length, 0, true, { s with es := true, el := false })
  else none
def SS.nx (s : SS) (room : Int) (more : Nat) : SS × NF :=
  if 5 ≤ s.st then (if s.rq = true ∧ (size4 (resetF s.id s.rs) : Int) ≤ min room 512 then ({ s with rq := false }, .rst) else (s, .none))
  else if min room 512 < 20 then (s, .none)
  else match s.os.nxt (min room 512 - 20).toNat (min s.lim (s.os.sent + min more 1099511627776)) with
    | none => (s, .none)
    | some x => ({ s with os := x.2.2.2, st := max (max s.st 2) (if x.2.2.1 then 3 else 0) }, .piece x.1 x.2.1 x.2.2.1)
def NF.fr (id : Nat) (rs : Option (Nat × Nat)) (v : Value) : NF → Fr
  | .none => zeroF
  | .rst => resetF id rs
  | .piece off _ fin => strF id off v fin
def NF.ok : NF → Bool
  | .none => false
  | _ => true
def NF.data (B : List Nat) : NF → List Nat
  | .piece off len _ => (B.drop off).take len
  | _ => []
/-- What a sender's Next leaves. -/
def SnP (w w' : World) (fp : Nat → Prop) (r : Nat) (s' : SS) (v : Value) (data : List Nat) : Prop := SdM w w' fp r s' ∧ ∃ og, SlG encB 5 w' v og data ∧ ∀ g, og = some g → w.heap.size ≤ g
theorem snx_any (r : Nat) (s : SS) (fp : Nat → Prop) (room : Int) (more : Nat) (w : World) (h : SdAt w r s fp) (hj : GJ s.os) (hrs : 5 ≤ s.st → s.rq = true → ∃ x, s.rs = some x) (hmore : more < 18446744073709551616) (hr1 : -9223372036854775808 ≤ room) (hr2 : room ≤ 9223372036854775807) :
    Calls Try.prog 47 #[.pointer (some ⟨r, 0, none⟩), .int .i64 room, .int .u64 more] w fun e w' => ∃ v, e = .returned (.tuple #[.agg (encF ((s.nx room more).2.fr s.id s.rs v)).toArray, .bool (s.nx room more).2.ok]) ∧
      SnP w w' fp r (s.nx room more).1 v ((s.nx room more).2.data s.os.B) := by
  have hl4 := hj.l4
  have hst := h.ok.st
  have hlim := h.ok.lim
  have hsent := hj.ok.sent
  have nocase : ∀ w', Below w.heap.size w w' → SnP w w' fp r s (.slice none 0 0) [] := fun w' hb => ⟨(SdM.refl h).later hb, none, SlG.nil _, by simp⟩
  unfold SS.nx
  by_cases h5 : 5 ≤ s.st
  · rw [if_pos h5]
    by_cases hq : s.rq = true ∧ (size4 (resetF s.id s.rs) : Int) ≤ min room 512
    · rw [if_pos hq]
      obtain ⟨x, hx⟩ := hrs h5 hq.1
      refine (snext_rst r s fp room more w h h5 hq.1 ⟨x, hx, hq.2⟩ hr1 hr2).mono ?_
      rintro e w' ⟨rfl, hm⟩
      exact ⟨.slice none 0 0, rfl, hm, none, SlG.nil _, by simp⟩
    · rw [if_neg hq]
      refine (snext_rno r s fp room more w h h5 (fun q => ?_) hr1 hr2).mono ?_
      · obtain ⟨x, hx⟩ := hrs h5 q
        refine ⟨x, hx, ?_⟩
        rcases Int.lt_or_le (min room 512) (size4 (resetF s.id s.rs) : Int) with q2 | q2
        · exact q2
        · exact absurd ⟨q, q2⟩ hq
      · rintro e w' ⟨rfl, hb⟩
        exact ⟨.slice none 0 0, rfl, nocase w' hb⟩
  · rw [if_neg h5]
    by_cases hroom : min room 512 < 20
    · rw [if_pos hroom]
      refine (snext_few r s fp room more w h (by omega) hroom).mono ?_
      rintro e w' ⟨rfl, hb⟩
      exact ⟨.slice none 0 0, rfl, nocase w' hb⟩
    · rw [if_neg hroom]
      obtain ⟨m, hm2⟩ : ∃ m : Nat, min room 512 = (m : Int) + 20 := ⟨(min room 512 - 20).toNat, by omega⟩
      rw [show (min room 512 - 20).toNat = m by omega]
      obtain ⟨lim2, hlim2⟩ : ∃ lim2, min s.lim (s.os.sent + min more 1099511627776) = lim2 := ⟨_, rfl⟩
      rw [hlim2]
      unfold OS.nxt
      rcases hj.next m lim2 with ⟨f, t0, t, b1, b2, b3, b4, b5, b6, b7, b8, b9⟩ | ⟨b1, b2, b3⟩ | ⟨f, t0, b1, b2, b3, b4, b5⟩
      · rw [b1]
        simp only
        rw [b4, if_pos b3]
        simp only
        obtain ⟨fin, hfin⟩ : ∃ fin, (decide (t = s.os.B.length) && s.os.ende) = fin := ⟨_, rfl⟩
        rw [hfin]
        refine (snext_yes r s fp room more m lim2 f fin (s.os.went f t) ((s.os.B.drop f).take (t - f)) w h (by omega) hm2 hmore hr1 hr2 hlim2 rfl (fun b fb W2 h0 => ?_)).mono ?_
        · rw [← hfin]
          exact onext_go b s.os fb m lim2 f t0 t W2 h0 (by omega) b1 b2 b3 (by rw [Int.toNat_natCast]; exact b4) b5 (by omega) b6 b7 (by omega) (by omega)
        · rintro e w' ⟨v2, rfl, hm, hsl⟩
          exact ⟨v2, rfl, hm, hsl⟩
      · have hpt : s.os.part lim2 = (s.os.sent, max s.os.sent (min lim2 s.os.B.length)) := by
          unfold OS.part
          rw [b1]
        rw [hpt]
        simp only
        rw [if_neg (by omega), if_pos ⟨b1, b2, b3⟩]
        simp only
        refine (snext_yes r s fp room more m lim2 s.os.B.length true { s.os with es := true, el := false } [] w h (by omega) hm2 hmore hr1 hr2 hlim2 rfl (fun b fb W2 h0 => ?_)).mono ?_
        · refine (onext_end b s.os fb m lim2 W2 h0 (by omega) b1 b2 b3 (by omega) (by omega)).mono ?_
          rintro e w' ⟨rfl, hm⟩
          exact ⟨_, none, rfl, hm, SlG.nil _, fun g q => by cases q⟩
        · rintro e w' ⟨v2, rfl, hm, hsl⟩
          refine ⟨v2, rfl, hm, ?_⟩
          show ∃ og, SlG encB 5 w' v2 og ((s.os.B.drop s.os.B.length).take 0) ∧ _
          rw [List.take_zero]
          exact hsl
      · rw [b1]
        simp only
        rw [b3, if_neg (by omega), if_neg (fun q => by rw [b5 q.1 q.2.1] at q; simp at q)]
        simp only
        refine (snext_no r s fp room more m lim2 w h (by omega) hm2 hmore hr1 hr2 hlim2 (fun b fb W2 h0 => ?_)).mono ?_
        · exact onext_none b s.os fb m lim2 f t0 W2 h0 (by omega) b1 b2 (by rw [Int.toNat_natCast]; exact b3) b4 b5 (by omega) (by omega)
        · rintro e w' ⟨rfl, hb⟩
          exact ⟨.slice none 0 0, rfl, nocase w' hb⟩
end Go.Proofs.Ytfdgamlakfkekaa
