/- DERIVED. Walk of outbuf's Write. -/
import Derived.Test.YtkebjfaphmamjaaOutNext
import Derived.Test.YtkebjfaphmamjaaStr
namespace Go.Proofs.Ytkebjfaphmamjaa
open Go.RowKit

set_option maxRecDepth 100000 in
set_option maxHeartbeats 2000000 in
theorem owrite_any (b : Nat) (s : OS) (fp : Nat → Prop) (vd : Value) (dd : List Nat) (w : World) {B : Nat} (h : OAt w b s fp) (hd : Vw encB w B vd dd) (hB : B ≤ w.heap.size) (hby : Bys dd) (hroom : s.B.length ≤ s.base + 2048) (hl1 : dd.length ≤ 1000000) (hl2 : s.B.length ≤ 1000000) :
    Calls Try.prog 9 #[.pointer (some ⟨b, 0, none⟩), vd] w fun e w' => e = .returned (.int .i64 (min dd.length s.room : Nat)) ∧ OM w w' fp b (s.write dd) := by
  obtain ⟨i0, hi0, hz0, hz1, hz2'⟩ := info_parts infoB
  obtain ⟨od, capd, rfl, hc1, hc2⟩ := hd.shape
  have H := Lib.hid h
  have HBY := Lib.hid hby
  have HRM := Lib.hid hroom
  obtain ⟨len, hln⟩ : ∃ len, s.B.length = len := ⟨_, rfl⟩
  obtain ⟨dl, hdl⟩ : ∃ dl, dd.length = dl := ⟨_, rfl⟩
  obtain ⟨room, hrm⟩ : ∃ room, s.room = room := ⟨_, rfl⟩
  obtain ⟨n, hn⟩ : ∃ n, min dl room = n := ⟨_, rfl⟩
  have hrmb : room ≤ 2048 := by rw [← hrm]; unfold OS.room; split <;> omega
  have HLE := Lib.hid hln
  have HDL := Lib.hid hdl
  have HRO := Lib.hid hrm
  have HNN := Lib.hid hn
  rw [hdl] at hc1 hl1 hd ⊢
  have HD := Lib.hid hd
  rw [hrm, hn]
  rw [hln] at hl2
  clear h hd hby hroom hln hdl hrm
  have hnb : n ≤ 2048 := by omega
  have hnd : n ≤ dl := by omega
  have hnc : n ≤ capd := by omega
  go_enter Try.func9, Try.ntmps9
  go_upto_region 1 with fail
  go_cut [5] (fun v wx => v = .int .i64 n ∧ ∃ q, wx = w.drewN q)
  case first =>
    rcases (by omega : (dl < room ∧ n = dl) ∨ (room < dl ∧ n = room) ∨ (dl = room ∧ n = dl)) with ⟨q1, q3⟩ | ⟨q1, q3⟩ | ⟨q1, q3⟩
    all_goals subst q3
    all_goals try subst q1
    all_goals clear hn
    all_goals go_wp2_with fail
    all_goals refine (oroom_q b s fp _ (by exact H.out) HRM.out).mono ?_
    all_goals rw [HRO.out]
    all_goals rintro e w1 ⟨rfl, q, rfl⟩
    all_goals go_wp2_with fail
    all_goals go_meet
    all_goals exact ⟨rfl, q, rfl⟩
  case rest =>
    obtain ⟨rfl, q0, rfl⟩ := hcut
    have hb0 : Below w.heap.size w (w.drewN q0) := below_drewN (Below.refl _ _) q0
    have H1 := Lib.hid (OM.refl H.out |>.later hb0)
    have HF0 := (((HD.out.front encB_len n hnd).mono hB).below hb0).below (Below.refl _ _).drew
    generalize w.drewN q0 = w1 at *
    obtain ⟨fp1, hoa1, hw1⟩ := H1.out
    obtain ⟨vb, ob, c, oc, d, od', hO, hfp⟩ := hoa1
    have HO := Lib.hid (hO.below (Below.refl _ _).drew)
    rw [hfp] at hw1
    have HW := Lib.hid (hw1.later (Below.refl w1.heap.size w1).drew)
    obtain ⟨oB, cB, e0, hcB, hcB2⟩ := HO.out.row.shape
    have HRL := Lib.hid (show (s.B.drop s.base).length = len - s.base by rw [List.length_drop, HLE.out])
    rw [HRL.out] at e0 hcB
    subst e0
    have HF := Lib.hid HF0
    have HFL := Lib.hid (show (dd.take n).length = n by rw [List.length_take, HDL.out]; omega)
    have HTL := Lib.hid (show (s.B.drop s.base ++ dd.take n).length = len - s.base + n by rw [List.length_append, HRL.out, HFL.out])
    have hbl : s.base ≤ len := by rw [← HLE.out]; exact HO.out.ok.base
    have HSB := Lib.hid (show s.B.drop s.base ++ dd.take n = (s.B ++ dd.take n).drop s.base by rw [List.drop_append_of_le_length HO.out.ok.base])
    have HROW := Lib.hid HO.out.row
    have HBK := Lib.hid HO.out.blk
    generalize hbb : s.base = base at *
    have HBB := Lib.hid hbb
    obtain ⟨vb, hvb⟩ : ∃ vb, Value.slice oB (len - base) cB = vb := ⟨_, rfl⟩
    have hlb : len - base ≤ 1000000 := by omega
    have e00 : w1.cell? ⟨b, 2, none⟩ = some (.int .u64 len) := by rw [cell_at hO.blk, ← HLE.out]; rfl
    clear hO hfp hw1 HF0 hb0 hbb
    rw [hvb] at HO HROW HBK
    go_upto_region 2 with fail
    go_cut [] (fun wx => ∃ a8 c8 o8 W8, wx = W8.setCell ⟨b, 0, none⟩ (.slice a8 (len - base + n) c8) ∧ SlO encB 1 5 W8 (.slice a8 (len - base + n) c8) o8 (s.B.drop base ++ dd.take n) ∧ (o8 = ob ∨ ∃ g, o8 = some g ∧ w1.drew.heap.size ≤ g) ∧ Upd (fun j => ob = some j) w1.drew W8 ∧
      W8.heap[b]? = some (.cells #[vb, .int .u64 base, .int .u64 s.B.length, .int .u64 s.sent, .pointer (some ⟨c, 0, none⟩), .pointer (some ⟨d, 0, none⟩), .bool s.fi, .bool s.es, .bool s.ea, .bool s.el] 51 (0, 0)))
    case first =>
      go_wp2_with fail
      have hb : Below w1.drew.heap.size w1.drew w1.drew := Below.refl _ _
      refine wp_region_till (S := fun w' => w'.cell? ⟨b, 0, none⟩ = some vb) [11] (by kernel_rfl) (by exact (cell_at HBK.out 0).trans rfl) (fun hHeld => ?_)
      refine wpTill_take0 (i := 0) (oi := ⟨some 11, _, _, _, _, _⟩) (v := ?_) rfl (by kernel_rfl) (fun _ _ _ h => h) (Or.inl ⟨by rfl, ?_⟩) (fun _ => hHeld) ?_
      rotate_left
      · intro w hSw
        (try dsimp only at hSw)
        go_simp
        try with_reducible rfl
      try simp only [Act.put, List.setIfInBounds_toArray, List.set_cons_zero, List.set_cons_succ]
      refine wpTill_take0 (i := 1) (oi := ⟨some 12, _, _, _, _, _⟩) (v := ?_) rfl (by kernel_rfl) (fun _ _ _ h => h) (Or.inl ⟨by rfl, ?_⟩) (fun _ => hHeld) ?_
      rotate_left
      · intro w hSw
        (try dsimp only at hSw)
        go_simp
        try with_reducible rfl
      try simp only [Act.put, List.setIfInBounds_toArray, List.set_cons_zero, List.set_cons_succ]
      refine wpTill_take0 (i := 2) (oi := ⟨some 13, _, _, _, _, _⟩) (v := ?_) rfl (by kernel_rfl) (fun _ _ _ h => h) (Or.inl ⟨by rfl, ?_⟩) (fun _ => hHeld) ?_
      rotate_left
      · intro w hSw
        (try dsimp only at hSw)
        go_simp
        try with_reducible rfl
      try simp only [Act.put, List.setIfInBounds_toArray, List.set_cons_zero, List.set_cons_succ]
      refine wpTill_take0 (i := 3) (oi := ⟨some 14, _, _, _, _, _⟩) (v := ?_) rfl (by kernel_rfl) (fun _ _ _ h => h) (Or.inl ⟨by rfl, ?_⟩) (fun _ => hHeld) ?_
      rotate_left
      · intro w hSw
        (try dsimp only at hSw)
        go_simp
        try with_reducible rfl
      try simp only [Act.put, List.setIfInBounds_toArray, List.set_cons_zero, List.set_cons_succ]
      refine wpTill_take (i := 4) (oi := ⟨some 15, _, _, _, _, _⟩) (v := ?_) rfl (by kernel_rfl) (fun _ _ _ h => h) (Or.inl ⟨by rfl, ?_⟩) (by exact hHeld) ?_
      rotate_left
      · intro w hSw
        (try dsimp only at hSw)
        go_simp
        try with_reducible rfl
      try simp only [Act.put, List.setIfInBounds_toArray, List.set_cons_zero, List.set_cons_succ]
      refine wpTill_take0 (i := 5) (oi := ⟨some 16, _, _, _, _, _⟩) (v := ?_) rfl (by kernel_rfl) (fun _ _ _ h => h) (Or.inl ⟨by rfl, ?_⟩) (fun _ => hHeld) ?_
      rotate_left
      · intro w hSw
        (try dsimp only at hSw)
        go_simp
        try with_reducible rfl
      try simp only [Act.put, List.setIfInBounds_toArray, List.set_cons_zero, List.set_cons_succ]
      refine wpTill_take0 (i := 6) (oi := ⟨some 17, _, _, _, _, _⟩) (v := ?_) rfl (by kernel_rfl) (fun _ _ _ h => h) (Or.inl ⟨by rfl, ?_⟩) (fun _ => hHeld) ?_
      rotate_left
      · intro w hSw
        (try dsimp only at hSw)
        go_simp
        try with_reducible rfl
      try simp only [Act.put, List.setIfInBounds_toArray, List.set_cons_zero, List.set_cons_succ]
      refine wpTill_take0 (i := 7) (oi := ⟨some 18, _, _, _, _, _⟩) (v := ?_) rfl (by kernel_rfl) (fun _ _ _ h => h) (Or.inl ⟨by rfl, ?_⟩) (fun _ => hHeld) ?_
      rotate_left
      · intro w hSw
        (try dsimp only at hSw)
        go_simp
        try with_reducible rfl
      try simp only [Act.put, List.setIfInBounds_toArray, List.set_cons_zero, List.set_cons_succ]
      refine wpTill_ready (rs := [8]) (by kernel_rfl) (by simp) ?_
      refine AllTill.cons (o := ⟨some 19, _, _, _, _, _⟩) rfl (fun K hK => ?_) AllTill.nil
      refine step_pushO encB_len encB_one Try.underlying28 hi0 hz1 hz0 zeroB rfl (.tmp 15) (.tmp 18) rfl (by exact HROW.out) (by exact HF.out) rfl rfl (by rw [HRL.out, HFL.out, hz2']; omega) (by rw [HRL.out, HFL.out]; omega) ?_
      intro W8 v8 o8 f8 ho8 hu8
      refine hK.out _ _ (by exact (cell_upd hu8 hHeld (fun e => HO.out.obs.1 e) (Nat.lt_of_lt_of_le (heap_lt HO.out.blk) hb.size))) (fun hHeld => ?_)
      clear hK K
      try simp only [Act.put, List.setIfInBounds_toArray, List.set_cons_zero, List.set_cons_succ]
      refine wpTill_take0 (i := 9) (oi := ⟨some 20, _, _, _, _, _⟩) (v := ?_) rfl (by kernel_rfl) (fun _ _ _ h => h) (Or.inl ⟨by rfl, ?_⟩) (fun _ => hHeld) ?_
      rotate_left
      · intro w hSw
        (try dsimp only at hSw)
        go_simp
        try with_reducible rfl
      try simp only [Act.put, List.setIfInBounds_toArray, List.set_cons_zero, List.set_cons_succ]
      refine wpTill_take0 (i := 10) (oi := ⟨some 21, _, _, _, _, _⟩) (v := ?_) rfl (by kernel_rfl) (fun _ _ _ h => h) (Or.inl ⟨by rfl, ?_⟩) (fun _ => hHeld) ?_
      rotate_left
      · intro w hSw
        (try dsimp only at hSw)
        go_simp
        try with_reducible rfl
      try simp only [Act.put, List.setIfInBounds_toArray, List.set_cons_zero, List.set_cons_succ]
      refine wpTill_ready (rs := [11]) (by kernel_rfl) (by simp) ?_
      refine AllTill.consD (o := ⟨none, _, _, _, _, _⟩) rfl (by kernel_rfl) (fun K hK => ?_) AllTill.nil
      obtain ⟨a8, c8, e8, _, _⟩ := f8.shape
      rw [HTL.out] at e8
      subst e8
      have hk := hu8.keeps HBK.out (fun e => HO.out.obs.1 e)
      have e0 := cell_at hk 0
      have q0 := free_at hk 0
      go_simp
      refine hK.out _ _ ?_
      clear hK K
      try simp only [Act.put, List.setIfInBounds_toArray, List.set_cons_zero, List.set_cons_succ]
      refine wpTill_done (by kernel_rfl) ?_ _
      go_wp2_with fail
      go_meet
      case rel => exact ⟨_, _, _, _, rfl, f8, ho8, hu8, hk⟩
    case rest =>
      obtain ⟨a8, c8, o8, W8, rfl, f8, ho8, hu8, hk⟩ := hcut
      obtain ⟨z, hz, hz2⟩ : ∃ z : Nat, (len : Int) + (n : Int) = (z : Int) ∧ len + n = z := ⟨len + n, by omega, rfl⟩
      have hzb : z ≤ 1099511627776 := by omega
      have e2 : W8.cell? ⟨b, 2, none⟩ = some (.int .u64 len) := by rw [cell_at hk, ← HLE.out]; rfl
      have q2 := free_at hk 2
      have hs' : s.write dd = { s with B := s.B ++ dd.take n } := by unfold OS.write; rw [HDL.out, HRO.out, HNN.out]
      have hbl2 : (s.B ++ dd.take n).length = z := by rw [List.length_append, HLE.out, HFL.out]; exact hz2
      have f9 : SlO encB 1 5 W8 (.slice a8 (len - base + n) c8) o8 ((s.B ++ dd.take n).drop s.base) := by rw [HBB.out, ← HSB.out]; exact f8
      have HM := Lib.hid (show OM w ((W8.setCell ⟨b, 0, none⟩ (.slice a8 (len - base + n) c8)).setCell ⟨b, 2, none⟩ (.int .u64 (z : Nat))) fp b (s.write dd) from by
        rw [hs']
        refine om_set (s' := { s with B := s.B ++ dd.take n }) HO.out HW.out hu8 (((Upd.refl (fun j => j = b) W8).setCell ⟨b, 0, none⟩ (.inl rfl) _).setCell ⟨b, 2, none⟩ (.inl rfl) _) ?_ f9 (ho8.imp id .inr) rfl rfl ?_
        · have h3 := set_at (set_at hk 0 (.slice a8 (len - base + n) c8)) 2 (.int .u64 (z : Nat))
          rw [h3, hbl2, HBB.out]
          rfl
        · have ho := HO.out.ok
          refine ⟨by rw [hbl2]; exact hzb, ?_, ?_, ho.nx, ho.ny, ho.lx, ho.ly, ?_⟩
          · have := ho.base
            rw [hbl2, ← hz2, ← HLE.out]
            exact Nat.le_trans this (Nat.le_add_right _ _)
          · have := ho.sent
            rw [hbl2, ← hz2, ← HLE.out]
            exact Nat.le_trans this (Nat.le_add_right _ _)
          · intro x hx
            rcases List.mem_append.1 hx with hx | hx
            · exact ho.bys x hx
            · exact HBY.out x (List.mem_of_mem_take hx))
      clear f8 f9 ho8 hu8 hs' hbl2 hz2 e00
      go_wp2_with fail
      go_ret
      exact ⟨rfl, HM.out⟩
end Go.Proofs.Ytkebjfaphmamjaa
