/- DERIVED. Walk of outbuf's Write. -/
import Derived.Deep.RegionWith
import Derived.Deep.CutBlock
import Derived.Deep.DeepCutAuto
import Derived.Test.YtnneoeimgbemfaaGreatQH3
import Derived.Test.YtnneoeimgbemfaaGreatQH5
import Derived.Test.YtnneoeimgbemfaaGreatQH6
set_option linter.all false
namespace Go.Proofs.YtnneoeimgbemfaaGreat
open Go.RowKit

set_option maxRecDepth 100000 in
set_option maxHeartbeats 2000000 in
theorem owrite_any (b : Nat) (s : OS) (fp : Nat → Prop) (vd : Value) (dd : List Nat) (w : World) {B : Nat} (h : OAt w b s fp) (hd : Vw encB w B vd dd) (hB : B ≤ w.heap.size) (hby : Bys dd) (hroom : s.B.length ≤ s.base + 2048) (hl1 : dd.length ≤ 1000000) (hl2 : s.B.length ≤ 1000000) :
    Calls Tryz.prog 42 #[.pointer (some ⟨b, 0, none⟩), vd] w fun e w' => e = .returned (.int .i64 (min dd.length s.room : Nat)) ∧ OM w w' fp b (s.write dd) := by
  obtain ⟨i0, hi0, hz0, hz1, hz2'⟩ := info_parts infoB
  obtain ⟨od, capd, rfl, hc1, hc2⟩ := hd.shape
  have H := Lib.hid h
  have HBY := Lib.hid hby
  have HRM := Lib.hid hroom
  obtain ⟨len, hln⟩ : ∃ len, s.B.length = len := ⟨_, rfl⟩
  obtain ⟨dl, hdl⟩ : ∃ dl, dd.length = dl := ⟨_, rfl⟩
  obtain ⟨room, hrm⟩ : ∃ room, s.room = room := ⟨_, rfl⟩
  obtain ⟨n, hn⟩ : ∃ n, min dl room = n := ⟨_, rfl⟩
  have hrmb : room ≤ 2048 := by rw [← hrm]; unfold OS.room; split <;> omega
  have HLE := Lib.hid hln
  have HDL := Lib.hid hdl
  have HRO := Lib.hid hrm
  have HNN := Lib.hid hn
  rw [hdl] at hc1 hl1 hd ⊢
  have HD := Lib.hid hd
  rw [hrm, hn]
  rw [hln] at hl2
  clear h hd hby hroom hln hdl hrm
  have hnb : n ≤ 2048 := by omega
  have hnd : n ≤ dl := by omega
  have hnc : n ≤ capd := by omega
  go_enter Tryz.func42, Tryz.ntmps42
  go_upto_region 1 with fail
  go_cut [5] (fun v wx => v = .int .i64 n ∧ ∃ q, wx = w.drewN q)
  case first =>
    rcases (by omega : (dl < room ∧ n = dl) ∨ (room < dl ∧ n = room) ∨ (dl = room ∧ n = dl)) with ⟨q1, q3⟩ | ⟨q1, q3⟩ | ⟨q1, q3⟩
    all_goals subst q3
    all_goals try subst q1
    all_goals clear hn
    all_goals go_wp2_with fail
    all_goals refine (oroom_q b s fp _ (by exact H.out) HRM.out).mono ?_
    all_goals rw [HRO.out]
    all_goals rintro e w1 ⟨rfl, q, rfl⟩
    all_goals go_wp2_with fail
    all_goals go_meet
    all_goals exact ⟨rfl, q, rfl⟩
  case rest =>
    obtain ⟨rfl, q0, rfl⟩ := hcut
    have hb0 : Below w.heap.size w (w.drewN q0) := below_drewN (Below.refl _ _) q0
    have H1 := Lib.hid (OM.refl H.out |>.later hb0)
    have HF0 := (((HD.out.front encB_len n hnd).mono hB).below hb0).below (Below.refl _ _).drew
    generalize w.drewN q0 = w1 at *
    obtain ⟨fp1, hoa1, hw1⟩ := H1.out
    obtain ⟨vb, ob, c, oc, d, od', hO, hfp⟩ := hoa1
    have HO := Lib.hid (hO.below (Below.refl _ _).drew)
    rw [hfp] at hw1
    have HW := Lib.hid (hw1.later (Below.refl w1.heap.size w1).drew)
    obtain ⟨oB, cB, e0, hcB, hcB2⟩ := HO.out.row.shape
    have HRL := Lib.hid (show (s.B.drop s.base).length = len - s.base by rw [List.length_drop, HLE.out])
    rw [HRL.out] at e0 hcB
    subst e0
    have HF := Lib.hid HF0
    have HFL := Lib.hid (show (dd.take n).length = n by rw [List.length_take, HDL.out]; omega)
    have HTL := Lib.hid (show (s.B.drop s.base ++ dd.take n).length = len - s.base + n by rw [List.length_append, HRL.out, HFL.out])
    have hbl : s.base ≤ len := by rw [← HLE.out]; exact HO.out.ok.base
    have HSB := Lib.hid (show s.B.drop s.base ++ dd.take n = (s.B ++ dd.take n).drop s.base by rw [List.drop_append_of_le_length HO.out.ok.base])
    have HROW := Lib.hid HO.out.row
    have HBK := Lib.hid HO.out.blk
    generalize hbb : s.base = base at *
    have HBB := Lib.hid hbb
    obtain ⟨vb, hvb⟩ : ∃ vb, Value.slice oB (len - base) cB = vb := ⟨_, rfl⟩
    have hlb : len - base ≤ 1000000 := by omega
    have e00 : w1.cell? ⟨b, 2, none⟩ = some (.int .u64 len) := by rw [cell_at hO.blk, ← HLE.out]; rfl
    clear hO hfp hw1 HF0 hb0 hbb
    rw [hvb] at HO HROW HBK
    go_upto_region 2 with fail
    go_cut [] (fun wx => ∃ a8 c8 o8 W8, wx = W8.setCell ⟨b, 0, none⟩ (.slice a8 (len - base + n) c8) ∧ SlO encB 1 5 W8 (.slice a8 (len - base + n) c8) o8 (s.B.drop base ++ dd.take n) ∧ (o8 = ob ∨ ∃ g, o8 = some g ∧ w1.drew.heap.size ≤ g) ∧ Upd (fun j => ob = some j) w1.drew W8 ∧
      W8.heap[b]? = some (.cells #[vb, .int .u64 base, .int .u64 s.B.length, .int .u64 s.sent, .pointer (some ⟨c, 0, none⟩), .pointer (some ⟨d, 0, none⟩), .bool s.fi, .bool s.es, .bool s.ea, .bool s.el] 109 (0, 0)))
    case first =>
      go_wp2_with fail
      have hb : Below w1.drew.heap.size w1.drew w1.drew := Below.refl _ _
      refine wp_region_till (S := fun w' => w'.cell? ⟨b, 0, none⟩ = some vb) [11] (by kernel_rfl) (by exact (cell_at HBK.out 0).trans rfl) (fun hHeld => ?_)
      refine wpTill_take0 (i := 0) (oi := ⟨some 11, _, _, _, _, _⟩) (v := ?_) rfl (by kernel_rfl) (fun _ _ _ h => h) (Or.inl ⟨by rfl, ?_⟩) (fun _ => hHeld) ?_
      rotate_left
      · intro w hSw
        (try dsimp only at hSw)
        go_simp
        try with_reducible rfl
      try simp only [Act.put, List.setIfInBounds_toArray, List.set_cons_zero, List.set_cons_succ]
      refine wpTill_take0 (i := 1) (oi := ⟨some 12, _, _, _, _, _⟩) (v := ?_) rfl (by kernel_rfl) (fun _ _ _ h => h) (Or.inl ⟨by rfl, ?_⟩) (fun _ => hHeld) ?_
      rotate_left
      · intro w hSw
        (try dsimp only at hSw)
        go_simp
        try with_reducible rfl
      try simp only [Act.put, List.setIfInBounds_toArray, List.set_cons_zero, List.set_cons_succ]
      refine wpTill_take0 (i := 2) (oi := ⟨some 13, _, _, _, _, _⟩) (v := ?_) rfl (by kernel_rfl) (fun _ _ _ h => h) (Or.inl ⟨by rfl, ?_⟩) (fun _ => hHeld) ?_
      rotate_left
      · intro w hSw
        (try dsimp only at hSw)
        go_simp
        try with_reducible rfl
      try simp only [Act.put, List.setIfInBounds_toArray, List.set_cons_zero, List.set_cons_succ]
      refine wpTill_take0 (i := 3) (oi := ⟨some 14, _, _, _, _, _⟩) (v := ?_) rfl (by kernel_rfl) (fun _ _ _ h => h) (Or.inl ⟨by rfl, ?_⟩) (fun _ => hHeld) ?_
      rotate_left
      · intro w hSw
        (try dsimp only at hSw)
        go_simp
        try with_reducible rfl
      try simp only [Act.put, List.setIfInBounds_toArray, List.set_cons_zero, List.set_cons_succ]
      refine wpTill_take (i := 4) (oi := ⟨some 15, _, _, _, _, _⟩) (v := ?_) rfl (by kernel_rfl) (fun _ _ _ h => h) (Or.inl ⟨by rfl, ?_⟩) (by exact hHeld) ?_
      rotate_left
      · intro w hSw
        (try dsimp only at hSw)
        go_simp
        try with_reducible rfl
      try simp only [Act.put, List.setIfInBounds_toArray, List.set_cons_zero, List.set_cons_succ]
      refine wpTill_take0 (i := 5) (oi := ⟨some 16, _, _, _, _, _⟩) (v := ?_) rfl (by kernel_rfl) (fun _ _ _ h => h) (Or.inl ⟨by rfl, ?_⟩) (fun _ => hHeld) ?_
      rotate_left
      · intro w hSw
        (try dsimp only at hSw)
        go_simp
        try with_reducible rfl
      try simp only [Act.put, List.setIfInBounds_toArray, List.set_cons_zero, List.set_cons_succ]
      refine wpTill_take0 (i := 6) (oi := ⟨some 17, _, _, _, _, _⟩) (v := ?_) rfl (by kernel_rfl) (fun _ _ _ h => h) (Or.inl ⟨by rfl, ?_⟩) (fun _ => hHeld) ?_
      rotate_left
      · intro w hSw
        (try dsimp only at hSw)
        go_simp
        try with_reducible rfl
      try simp only [Act.put, List.setIfInBounds_toArray, List.set_cons_zero, List.set_cons_succ]
      refine wpTill_take0 (i := 7) (oi := ⟨some 18, _, _, _, _, _⟩) (v := ?_) rfl (by kernel_rfl) (fun _ _ _ h => h) (Or.inl ⟨by rfl, ?_⟩) (fun _ => hHeld) ?_
      rotate_left
      · intro w hSw
        (try dsimp only at hSw)
        go_simp
        try with_reducible rfl
      try simp only [Act.put, List.setIfInBounds_toArray, List.set_cons_zero, List.set_cons_succ]
      refine wpTill_ready (rs := [8]) (by kernel_rfl) (by simp) ?_
      refine AllTill.cons (o := ⟨some 19, _, _, _, _, _⟩) rfl (fun K hK => ?_) AllTill.nil
      refine step_pushO encB_len encB_one Tryz.underlying31 hi0 hz1 hz0 zeroB rfl (.tmp 15) (.tmp 18) rfl (by exact HROW.out) (by exact HF.out) rfl rfl (by rw [HRL.out, HFL.out, hz2']; omega) (by rw [HRL.out, HFL.out]; omega) ?_
      intro W8 v8 o8 f8 ho8 hu8
      refine hK.out _ _ (by exact (cell_upd hu8 hHeld (fun e => HO.out.obs.1 e) (Nat.lt_of_lt_of_le (heap_lt HO.out.blk) hb.size))) (fun hHeld => ?_)
      clear hK K
      try simp only [Act.put, List.setIfInBounds_toArray, List.set_cons_zero, List.set_cons_succ]
      refine wpTill_take0 (i := 9) (oi := ⟨some 20, _, _, _, _, _⟩) (v := ?_) rfl (by kernel_rfl) (fun _ _ _ h => h) (Or.inl ⟨by rfl, ?_⟩) (fun _ => hHeld) ?_
      rotate_left
      · intro w hSw
        (try dsimp only at hSw)
        go_simp
        try with_reducible rfl
      try simp only [Act.put, List.setIfInBounds_toArray, List.set_cons_zero, List.set_cons_succ]
      refine wpTill_take0 (i := 10) (oi := ⟨some 21, _, _, _, _, _⟩) (v := ?_) rfl (by kernel_rfl) (fun _ _ _ h => h) (Or.inl ⟨by rfl, ?_⟩) (fun _ => hHeld) ?_
      rotate_left
      · intro w hSw
        (try dsimp only at hSw)
        go_simp
        try with_reducible rfl
      try simp only [Act.put, List.setIfInBounds_toArray, List.set_cons_zero, List.set_cons_succ]
      refine wpTill_ready (rs := [11]) (by kernel_rfl) (by simp) ?_
      refine AllTill.consD (o := ⟨none, _, _, _, _, _⟩) rfl (by kernel_rfl) (fun K hK => ?_) AllTill.nil
      obtain ⟨a8, c8, e8, _, _⟩ := f8.shape
      rw [HTL.out] at e8
      subst e8
      have hk := hu8.keeps HBK.out (fun e => HO.out.obs.1 e)
      have e0 := cell_at hk 0
      have q0 := free_at hk 0
      go_simp
      refine hK.out _ _ ?_
      clear hK K
      try simp only [Act.put, List.setIfInBounds_toArray, List.set_cons_zero, List.set_cons_succ]
      refine wpTill_done (by kernel_rfl) ?_ _
      go_wp2_with fail
      go_meet
      case rel => exact ⟨_, _, _, _, rfl, f8, ho8, hu8, hk⟩
    case rest =>
      obtain ⟨a8, c8, o8, W8, rfl, f8, ho8, hu8, hk⟩ := hcut
      obtain ⟨z, hz, hz2⟩ : ∃ z : Nat, (len : Int) + (n : Int) = (z : Int) ∧ len + n = z := ⟨len + n, by omega, rfl⟩
      have hzb : z ≤ 1099511627776 := by omega
      have e2 : W8.cell? ⟨b, 2, none⟩ = some (.int .u64 len) := by rw [cell_at hk, ← HLE.out]; rfl
      have q2 := free_at hk 2
      have hs' : s.write dd = { s with B := s.B ++ dd.take n } := by unfold OS.write; rw [HDL.out, HRO.out, HNN.out]
      have hbl2 : (s.B ++ dd.take n).length = z := by rw [List.length_append, HLE.out, HFL.out]; exact hz2
      have f9 : SlO encB 1 5 W8 (.slice a8 (len - base + n) c8) o8 ((s.B ++ dd.take n).drop s.base) := by rw [HBB.out, ← HSB.out]; exact f8
      have HM := Lib.hid (show OM w ((W8.setCell ⟨b, 0, none⟩ (.slice a8 (len - base + n) c8)).setCell ⟨b, 2, none⟩ (.int .u64 (z : Nat))) fp b (s.write dd) from by
        rw [hs']
        refine om_set (s' := { s with B := s.B ++ dd.take n }) HO.out HW.out hu8 (((Upd.refl (fun j => j = b) W8).setCell ⟨b, 0, none⟩ (.inl rfl) _).setCell ⟨b, 2, none⟩ (.inl rfl) _) ?_ f9 (ho8.imp id .inr) rfl rfl ?_
        · have h3 := set_at (set_at hk 0 (.slice a8 (len - base + n) c8)) 2 (.int .u64 (z : Nat))
          rw [h3, hbl2, HBB.out]
          rfl
        · have ho := HO.out.ok
          refine ⟨by rw [hbl2]; exact hzb, ?_, ?_, ho.nx, ho.ny, ho.lx, ho.ly, ?_⟩
          · have := ho.base
            rw [hbl2, ← hz2, ← HLE.out]
            exact Nat.le_trans this (Nat.le_add_right _ _)
          · have := ho.sent
            rw [hbl2, ← hz2, ← HLE.out]
            exact Nat.le_trans this (Nat.le_add_right _ _)
          · intro x hx
            rcases List.mem_append.1 hx with hx | hx
            · exact ho.bys x hx
            · exact HBY.out x (List.mem_of_mem_take hx))
      clear f8 f9 ho8 hu8 hs' hbl2 hz2 e00
      go_wp2_with fail
      go_ret
      exact ⟨rfl, HM.out⟩
end Go.Proofs.YtnneoeimgbemfaaGreat

/- DERIVED. Walks of outbuf: part where something is lost; Finish; Whole. -/
namespace Go.Proofs.YtnneoeimgbemfaaGreat
open Go.RowKit

set_option maxRecDepth 100000 in
set_option maxHeartbeats 1000000 in
theorem opart_cons (b : Nat) (s : OS) (fp : Nat → Prop) (limit : Nat) (r : Rg) (rest : List Rg) (w : World) (h : OAt w b s fp) (hys : s.ys = r :: rest) :
    Calls Tryz.prog 62 #[.pointer (some ⟨b, 0, none⟩), .int .u64 limit] w fun e w' => e = .returned (.tuple #[.int .u64 r.1, .int .u64 r.2]) ∧ Below w.heap.size w w' := by
  obtain ⟨vb, ob, c, oc, d, od, hO, hfp⟩ := h
  have c5 : w.cell? ⟨b, 5, none⟩ = some (.pointer (some ⟨d, 0, none⟩)) := (cell_at hO.blk 5).trans rfl
  have HO := Lib.hid hO
  have HY := Lib.hid hys
  clear hO hfp hys
  go_enter Tryz.func62, Tryz.ntmps62
  go_wp2_with fail
  refine (all_any d many od s.ys _ (by exact HO.out.sy) (by have := HO.out.ok.ly; omega)).mono ?_
  rw [HY.out]
  rintro e w1 ⟨v, og, rfl, hs, hnew, hb⟩
  obtain ⟨oa, cap, rfl, hc1, hc2⟩ := hs.shape
  have HB := Lib.hid hb
  obtain ⟨g, hg, rfl, hgl, q0, q1⟩ := hs.atS (i := 0) (r := r) rfl
  rw [Nat.zero_mul] at q0 q1
  have hln : 0 < (r :: rest).length := by simp
  clear hs hb hnew c5 hg
  generalize (r :: rest).length = ln at *
  have HB1 := Lib.hid (HB.out.alloc HB.out.size (.cells #[.int .u64 r.1, .int .u64 r.2] 123))
  go_wp2_with fail
  go_loopw [14] (fun i wr => i = .int .i64 0 ∧ wr = w1) (fun _ _ => 0)
  case atStart => exact ⟨rfl, rfl⟩
  case round =>
    obtain ⟨rfl, rfl⟩ := hrel
    go_wp2_with fail
    go_quiet (fail)
    go_wp2_with fail
    go_ret2
    exact ⟨rfl, below_drewN HB1.out _⟩
end Go.Proofs.YtnneoeimgbemfaaGreat

/- DERIVED. slices.IndexFunc and slices.ContainsFunc with the two closures of ranges. -/
namespace Go.Proofs.YtnneoeimgbemfaaGreat
open Go.RowKit
set_option maxHeartbeats 400000 in
theorem meet_fn (lo hi c d : Nat) (r : Rg) (w : World) (hc : w.cell? ⟨c, 0, none⟩ = some (.int .u64 lo)) (hd : w.cell? ⟨d, 0, none⟩ = some (.int .u64 hi)) :
    Calls Tryz.prog 86 #[.agg #[.int .u64 r.1, .int .u64 r.2], .pointer (some ⟨d, 0, none⟩), .pointer (some ⟨c, 0, none⟩)] w fun e w' => e = .returned (.bool (meetP lo hi r)) ∧ Below w.heap.size w w' := by
  have ha := fun o => Lib.cell?_alloc_some o hc
  have hb := fun o => Lib.cell?_alloc_some o hd
  by_cases h1 : r.1 < hi
  all_goals by_cases h2 : lo < r.2
  all_goals
    go_enter Tryz.func86, Tryz.ntmps86
    go_wp2
    go_ret
    exact ⟨fn_end (by simp [meetP, h1, h2]; try omega), (Below.refl _ _).alloc (Nat.le_refl _) _⟩

set_option maxRecDepth 100000 in
set_option maxHeartbeats 400000 in
theorem index_meet (lo hi c d : Nat) (v : Value) (og : Option Nat) (xs : List Rg) (w : World) (hs : Sl w v og xs) (hc : w.cell? ⟨c, 0, none⟩ = some (.int .u64 lo)) (hd : w.cell? ⟨d, 0, none⟩ = some (.int .u64 hi)) :
    Calls Tryz.prog 99 #[v, .func (.func 86) #[] #[.pointer (some ⟨d, 0, none⟩), .pointer (some ⟨c, 0, none⟩)]] w
      fun e w' => ∃ z : Int, e = .returned (.int .i64 z) ∧ decide (0 ≤ z) = xs.any (meetP lo hi) ∧ Below w.heap.size w w' := by
  obtain ⟨oa, cap, rfl, hcap, hcap2⟩ := hs.shape
  have HS := Lib.hid hs
  have HC := Lib.hid hc
  have HD := Lib.hid hd
  clear hs hc hd
  generalize hn : xs.length = len at *
  have HN := Lib.hid hn
  clear hn
  go_enter Tryz.func99, Tryz.ntmps99
  go_wp2_with fail
  go_loopw [8] (fun i wr => ∃ k : Nat, i = .int .i64 k ∧ k ≤ len ∧ (xs.take k).any (meetP lo hi) = false ∧ Below w.heap.size w wr) (fun i _ => len - (intOf i).toNat)
  case atStart => exact ⟨0, rfl, by omega, by simp, Below.refl _ _⟩
  case round =>
    obtain ⟨k, rfl, hk, hany, hb⟩ := hrel
    have HA := Lib.hid hany
    have HB := Lib.hid hb
    clear hany hb
    by_cases hlt : k < len
    · obtain ⟨r, hr⟩ : ∃ r, xs[k]? = some r := ⟨_, List.getElem?_eq_getElem (by rw [HN.out]; exact hlt)⟩
      obtain ⟨g, hog, rfl, hgl, c0, c1⟩ := HS.out.atS hr
      have HR := Lib.hid hr
      have d0 := (HB.out.cell (p := ⟨g, k * 2, none⟩) hgl).trans c0
      have d1 := (HB.out.cell (p := ⟨g, k * 2 + 1, none⟩) hgl).trans c1
      clear c0 c1 hog hr
      have hcl := cell_in HC.out
      have hdl := cell_in HD.out
      have hfn := Lib.hid (meet_fn lo hi c d r wr ((HB.out.cell (p := ⟨c, 0, none⟩) hcl).trans HC.out) ((HB.out.cell (p := ⟨d, 0, none⟩) hdl).trans HD.out))
      cases hp : meetP lo hi r
      all_goals go_wp2_with fail
      all_goals (refine hfn.out.mono ?_; rintro e w' ⟨rfl, hb'⟩)
      all_goals (have HB' := Lib.hid (below_call HB.out HB.out.size hb'))
      all_goals clear hb'
      · rw [hp]
        go_wp2
        go_roundw
        case rel => exact ⟨k + 1, by go_num, by omega, by rw [take_any HR.out, HA.out, hp]; rfl, HB'.out⟩
        case measure => simp [intOf]; omega
      · rw [hp]
        go_wp2
        go_ret
        refine ⟨k, rfl, ?_, HB'.out⟩
        have h1 : xs.any (meetP lo hi) = true := List.any_eq_true.2 ⟨r, List.mem_of_getElem? HR.out, hp⟩
        rw [h1]
        simp
    · go_wp2
      go_ret
      refine ⟨-1, rfl, ?_, HB.out⟩
      have := HA.out
      rw [List.take_of_length_le (by rw [HN.out]; omega)] at this
      rw [this]
      rfl

set_option maxHeartbeats 400000 in
theorem contains_meet (lo hi c d : Nat) (v : Value) (og : Option Nat) (xs : List Rg) (w : World) (hs : Sl w v og xs) (hc : w.cell? ⟨c, 0, none⟩ = some (.int .u64 lo)) (hd : w.cell? ⟨d, 0, none⟩ = some (.int .u64 hi)) :
    Calls Tryz.prog 83 #[v, .func (.func 86) #[] #[.pointer (some ⟨d, 0, none⟩), .pointer (some ⟨c, 0, none⟩)]] w
      fun e w' => e = .returned (.bool (xs.any (meetP lo hi))) ∧ Below w.heap.size w w' := by
  have HI := Lib.hid (index_meet lo hi c d v og xs w hs hc hd)
  clear hs hc hd
  go_enter Tryz.func83, Tryz.ntmps83
  go_wp2_with fail
  refine HI.out.mono ?_
  rintro e w' ⟨z, rfl, hz, hb⟩
  have HZ := Lib.hid hz
  have HB := Lib.hid hb
  clear hz hb
  go_wp2
  go_ret
  exact ⟨fn_end HZ.out, HB.out⟩
end Go.Proofs.YtnneoeimgbemfaaGreat

/- DERIVED. Walks of a set's Has and Add. -/
namespace Go.Proofs.YtnneoeimgbemfaaGreat
open Go.RowKit
set_option maxRecDepth 100000 in
set_option maxHeartbeats 1000000 in
theorem add_no (b lo hi : Nat) (w : World) (h : ¬ (lo < hi ∧ hi ≤ 4611686018427387904)) :
    Calls Tryz.prog 69 #[.pointer (some ⟨b, 0, none⟩), .int .u64 lo, .int .u64 hi] w fun e w' => e = .returned (.bool false) ∧ Below w.heap.size w w' := by
  rcases (by omega : hi ≤ lo ∨ (lo < hi ∧ 4611686018427387904 < hi)) with h | ⟨h1, h2⟩
  all_goals
    go_enter Tryz.func69, Tryz.ntmps69
    go_wp2
    go_ret
    exact ⟨rfl, ((Below.refl _ _).alloc (Nat.le_refl _) _).alloc (by simp) _⟩


/-- The state behind the first search: the set as it was, the two boxes, the range that grows. -/
structure AddSt (w wx : World) (b : Nat) (most : Int) (v : Value) (og : Option Nat) (xs : List Rg) (lo hi c : Nat) (r : Rg) : Prop where
  set : SetIs wx b most v og xs
  lo : wx.cell? ⟨w.heap.size, 0, none⟩ = some (.int .u64 lo)
  hi : wx.cell? ⟨w.heap.size + 1, 0, none⟩ = some (.int .u64 hi)
  cur : wx.heap[c]? = some (.cells #[.int .u64 r.1, .int .u64 r.2] 123 (0, 0))
  below : Below w.heap.size w wx
  size : wx.heap.size = c + 1
  far : w.heap.size + 1 < c
theorem AddSt.drewN {w wx : World} {b : Nat} {most : Int} {v : Value} {og : Option Nat} {xs : List Rg} {lo hi c : Nat} {r : Rg} (h : AddSt w wx b most v og xs lo hi c r) (n : Nat) : AddSt w (wx.drewN n) b most v og xs lo hi c r :=
  ⟨h.set, h.lo, h.hi, h.cur, below_drewN h.below n, h.size, h.far⟩
theorem AddSt.put {w wx : World} {b : Nat} {most : Int} {v : Value} {og : Option Nat} {xs : List Rg} {lo hi c : Nat} {r : Rg} (h : AddSt w wx b most v og xs lo hi c r) (hb : b < w.heap.size) (hg : ∀ g, og = some g → g < w.heap.size) (r' : Rg) :
    AddSt w ((wx.setCell ⟨c, 0, none⟩ (.int .u64 r'.1)).setCell ⟨c, 1, none⟩ (.int .u64 r'.2)) b most v og xs lo hi c r' := by
  have hu : Upd (fun j => j = c) wx ((wx.setCell ⟨c, 0, none⟩ (.int .u64 r'.1)).setCell ⟨c, 1, none⟩ (.int .u64 r'.2)) :=
    Upd.setCell (Upd.setCell (Upd.refl (fun j => j = c) wx) ⟨c, 0, none⟩ (.inl rfl) _) ⟨c, 1, none⟩ (.inl rfl) _
  have hf := h.far
  have hcell : ∀ j o, j ≠ c → ((wx.setCell ⟨c, 0, none⟩ (.int .u64 r'.1)).setCell ⟨c, 1, none⟩ (.int .u64 r'.2)).cell? ⟨j, o, none⟩ = wx.cell? ⟨j, o, none⟩ := fun j o hj => by
    apply World.cell?_of_block
    rw [Below.heap_setCell _ _ _ _ hj, Below.heap_setCell _ _ _ _ hj]
  refine ⟨h.set.keeps hu (by omega) (fun g hg' => by have := hg g hg'; omega), by rw [hcell _ _ (by omega)]; exact h.lo, by rw [hcell _ _ (by omega)]; exact h.hi, ?_, Upd.onto h.below hu (by rw [h.size]; omega) (by intro j h1 h2; omega), by simp [World.setCell, h.size], h.far⟩
  rw [set_at (set_at h.cur 0 _) 1 _]
  rfl

/-- Behind Replace and the store: what is known, as the trim is called. -/
theorem add_fin {w wc w5 : World} {b : Nat} {most : Int} {v : Value} {og og5 : Option Nat} {xs ys : List Rg} {lo hi c : Nat} {f : Rg} {oa5 : Option Addr} {n5 cap5 : Nat} {o : Obj} (h : AddSt w wc b most v og xs lo hi c f) (hb : b < w.heap.size) (hgl : ∀ g, og = some g → g < w.heap.size)
    (hsl : Sl w5 (.slice oa5 n5 cap5) og5 ys) (hog5 : og5 = og ∨ ∃ g, og5 = some g ∧ wc.heap.size + 1 ≤ g) (hup : Upd (fun j => og = some j) (wc.alloc o).drew w5) (hb5 : w5.heap[b]? = some (.cells #[.int .i64 most, v] 134 (0, 0))) :
    SetAt (w5.setCell ⟨b, 1, none⟩ (.slice oa5 n5 cap5)) b most og5 ys ∧ Upd (fun j => j = b ∨ og = some j) w (w5.setCell ⟨b, 1, none⟩ (.slice oa5 n5 cap5)) ∧
      (w5.setCell ⟨b, 1, none⟩ (.slice oa5 n5 cap5)).cell? ⟨w.heap.size, 0, none⟩ = some (.int .u64 lo) ∧ (w5.setCell ⟨b, 1, none⟩ (.slice oa5 n5 cap5)).cell? ⟨w.heap.size + 1, 0, none⟩ = some (.int .u64 hi) ∧
      (og5 = og ∨ ∃ g, og5 = some g ∧ w.heap.size + 2 ≤ g) := by
  have hsz := h.size
  have hfar := h.far
  have hog : og5 = og ∨ ∃ g, og5 = some g ∧ w.heap.size + 2 ≤ g := by
    rcases hog5 with hx | ⟨g, hx, hg⟩
    · exact .inl hx
    · exact .inr ⟨g, hx, by omega⟩
  have hne5 : og5 ≠ some b := by
    rintro rfl
    rcases hog with hx | ⟨g, hx, hg⟩
    · exact h.set.2.2 hx.symm
    · cases hx; omega
  have hu5 : Upd (fun j => j = b) w5 (w5.setCell ⟨b, 1, none⟩ (.slice oa5 n5 cap5)) := Upd.setCell (Upd.refl (fun j => j = b) w5) ⟨b, 1, none⟩ (.inl rfl) _
  have hlo : ∀ j u, j < c → b ≠ j → (∀ g, og = some g → g ≠ j) → wc.cell? ⟨j, 0, none⟩ = some u → (w5.setCell ⟨b, 1, none⟩ (.slice oa5 n5 cap5)).cell? ⟨j, 0, none⟩ = some u := by
    intro j u hj hbj hgj hc
    rw [← hc]
    apply World.cell?_of_block
    rw [hu5.block j (by have := hup.size; simp at this; omega) (fun e => hbj e.symm), hup.block j (by simp; omega) (fun e => hgj j e rfl)]
    exact Below.heap_alloc _ _ _ (by omega)
  refine ⟨⟨_, set_store hb5 _, hsl.keeps hu5 (fun g hg e => hne5 (by rw [hg, e])), hne5⟩, ?_, hlo _ _ (by omega) (by omega) (fun g hg => by have := hgl g hg; omega) h.lo, hlo _ _ (by omega) (by omega) (fun g hg => by have := hgl g hg; omega) h.hi, hog⟩
  refine Upd.trans (F := fun _ => False) (G := fun j => j = b ∨ og = some j) (b := (wc.alloc o).drew) ?_ ?_ (fun _ _ x => x.elim) (fun _ _ x => x)
  · exact (Upd.below ((h.below.alloc (by omega) o).drew)).mono (fun i hi x => by omega)
  · exact (hup.mono (fun _ _ x => .inr x)).then (hu5.mono (fun _ _ x => .inl x))
theorem Turned.next {w w1 w2 : World} {b : Nat} {most : Int} {og og1 : Option Nat} {ys : List Rg} (h : Turned w1 b most og1 ys w2) (hu : Upd (fun j => j = b ∨ og = some j) w w1) (hog : og1 = og ∨ ∃ g, og1 = some g ∧ w.heap.size ≤ g) :
    Turned w b most og ys w2 := by
  obtain ⟨og2, hs, ho, hu2⟩ := h
  refine ⟨og2, hs, ?_, hu.trans hu2 (fun _ _ x => x) ?_⟩
  · rcases ho with rfl | rfl | ⟨g, rfl, hg⟩
    · rcases hog with rfl | hx
      · exact .inl rfl
      · exact .inr (.inr hx)
    · exact .inr (.inl rfl)
    · exact .inr (.inr ⟨g, rfl, Nat.le_trans hu.size hg⟩)
  · intro i hi x
    rcases x with x | x
    · exact .inl x
    · rcases hog with rfl | ⟨g, rfl, hg⟩
      · exact .inr x
      · cases x; omega
theorem Turned.cell {w1 w2 : World} {b : Nat} {most : Int} {og1 : Option Nat} {ys : List Rg} (h : Turned w1 b most og1 ys w2) {j : Nat} {u : Value} (hc : w1.cell? ⟨j, 0, none⟩ = some u) (hb : j ≠ b) (hg : og1 ≠ some j) : w2.cell? ⟨j, 0, none⟩ = some u := by
  obtain ⟨og2, hs, ho, hu2⟩ := h
  rw [← hc]
  apply World.cell?_of_block
  exact hu2.block j (cell_in hc) (fun x => x.elim hb (fun x => hg x))
theorem Turned.later {w w1 w2 : World} {b : Nat} {most : Int} {og : Option Nat} {ys : List Rg} (h : Turned w b most og ys w1) (hb : Below w1.heap.size w1 w2) : Turned w b most og ys w2 := by
  obtain ⟨og2, hs, ho, hu⟩ := h
  exact ⟨og2, hs.below hb, ho, hu.trans (Upd.below hb) (fun _ _ x => x) (fun i hi x => by have := hu.size; omega)⟩
theorem Turned.ofBelow {w w1 : World} {b : Nat} {most : Int} {og : Option Nat} {ys : List Rg} (h : SetAt w b most og ys) (hb : Below w.heap.size w w1) : Turned w b most og ys w1 :=
  ⟨og, h.below hb, .inl rfl, (Upd.below hb).mono (fun i hi x => by omega)⟩

theorem minI (a b : Nat) : (if b < a then (b : Int) else (a : Int)) = ((min a b : Nat) : Int) := by split <;> omega
theorem maxI (a b : Nat) : (if a < b then (b : Int) else (a : Int)) = ((max a b : Nat) : Int) := by split <;> omega

set_option maxRecDepth 100000 in
set_option maxHeartbeats 2000000 in
theorem add_yes (b : Nat) (most : Int) (og : Option Nat) (xs : List Rg) (lo hi : Nat) (w : World) (h : SetAt w b most og xs) (hm : 1 ≤ most) (hm2 : most ≤ 9223372036854775807) (hlen : (xs.length + 1) * 16 ≤ 140737488355328) (h1 : lo < hi) (h2 : hi ≤ 4611686018427387904) :
    Calls Tryz.prog 69 #[.pointer (some ⟨b, 0, none⟩), .int .u64 lo, .int .u64 hi] w fun e w' => e = .returned (.bool ((addL most xs lo hi).any (meetP lo hi))) ∧ Turned w b most og (addL most xs lo hi) w' := by
  obtain ⟨v, hset⟩ := h
  obtain ⟨oa, cap, rfl, hcap, hcap2⟩ := hset.2.1.shape
  have hbl := heap_lt hset.1
  obtain ⟨W, hW⟩ : ∃ W, W = (w.alloc (.cells #[.int .u64 lo] 27)).alloc (.cells #[.int .u64 hi] 27) := ⟨_, rfl⟩
  have hB : Below w.heap.size w W := by rw [hW]; exact ((Below.refl _ _).alloc (Nat.le_refl _) _).alloc (by simp) _
  have hsz : W.heap.size = w.heap.size + 2 := by rw [hW]; simp
  have hset2 : SetIs W b most (.slice oa xs.length cap) og xs := hset.below hB
  have c1 : W.cell? ⟨b, 1, none⟩ = some (.slice oa xs.length cap) := by
    have := cell_at hset2.1 1
    simpa using this
  have cl : W.cell? ⟨w.heap.size, 0, none⟩ = some (.int .u64 lo) := by rw [hW]; simp
  have ch : W.cell? ⟨w.heap.size + 1, 0, none⟩ = some (.int .u64 hi) := by rw [hW]; simp
  have HG0 := Lib.hid (show ∀ g, og = some g → g < w.heap.size from hset.2.1.lt)
  have HSET := Lib.hid hset2
  have HB := Lib.hid hB
  have HSZ := Lib.hid hsz
  clear hset hset2 hB hsz
  generalize hn : xs.length = n at *
  have HN := Lib.hid hn
  clear hn
  have hil := iOf_le xs lo
  go_enter Tryz.func69, Tryz.ntmps69
  have HW := Lib.hid hW
  clear hW
  go_upto_block 0 with fail
  rw [← HW.out]
  go_cut [7] (fun i wx => i = .int .i64 (iOf xs lo) ∧ ∃ q, wx = W.drewN q)
  case first =>
    go_wp2_with fail
    go_loopw [7] (fun i wr => ∃ j q : Nat, i = .int .i64 j ∧ j ≤ iOf xs lo ∧ wr = W.drewN q) (fun i _ => n - (intOf i).toNat)
    case atStart => exact ⟨0, 0, rfl, by omega, rfl⟩
    case round =>
      obtain ⟨j, q, rfl, hj, rfl⟩ := hrel
      rw [HN.out] at hil
      by_cases hlt : j < iOf xs lo
      · obtain ⟨r, hr, hr2⟩ := iOf_lt hlt
        obtain ⟨g, hog, rfl, hgl, c2, c3⟩ := HSET.out.2.1.atS hr
        have hjn : (j : Int) < (n : Int) := by omega
        clear hr hog c2
        go_wp2_with fail
        go_quiet (fail)
        go_wp2
        go_roundw
        case rel => exact ⟨j + 1, _, by go_num, by omega, rfl⟩
        case measure => simp [intOf]; omega
      · obtain rfl : j = iOf xs lo := by omega
        generalize hj' : iOf xs lo = j at *
        have HJ := Lib.hid hj'
        clear hj'
        by_cases hjn : j < n
        · obtain ⟨r, hr⟩ : ∃ r, xs[j]? = some r := ⟨_, List.getElem?_eq_getElem (by rw [HN.out]; exact hjn)⟩
          obtain ⟨g, hog, rfl, hgl, c2, c3⟩ := HSET.out.2.1.atS hr
          have hr2 : lo ≤ r.2 := iOf_end (xs := xs) (by rw [HJ.out]; exact hr)
          clear hr hog c2
          go_wp2_with fail
          go_quiet (fail)
          go_wp2
          go_meet
          exact ⟨rfl, _, World.drewN_drewN _ _ _⟩
        · go_wp2_with fail
          go_quiet (fail)
          go_wp2
          go_meet
          exact ⟨rfl, _, World.drewN_drewN _ _ _⟩
  case rest =>
    obtain ⟨rfl, q, hwc⟩ := hcut
    have HSET1 := Lib.hid (show SetIs wc b most (.slice oa n cap) og xs by rw [hwc]; exact HSET.out)
    have HB1 := Lib.hid (show Below w.heap.size w wc by rw [hwc]; exact below_drewN HB.out q)
    have HSZ1 := Lib.hid (show wc.heap.size = w.heap.size + 2 by rw [hwc]; exact HSZ.out)
    replace c1 : wc.cell? ⟨b, 1, none⟩ = some (.slice oa n cap) := by rw [hwc]; exact c1
    replace cl : wc.cell? ⟨w.heap.size, 0, none⟩ = some (.int .u64 lo) := by rw [hwc]; exact cl
    replace ch : wc.cell? ⟨w.heap.size + 1, 0, none⟩ = some (.int .u64 hi) := by rw [hwc]; exact ch
    clear hwc HSET HB HSZ HW
    go_upto_block 2 with fail
    have H0 := Lib.hid (show AddSt w (wc.alloc (.cells #[.int .u64 lo, .int .u64 hi] 123)) b most (.slice oa n cap) og xs lo hi wc.heap.size (lo, hi) from
      ⟨HSET1.out.below ((Below.refl _ _).alloc (Nat.le_refl _) _), Lib.cell?_alloc_some _ cl, Lib.cell?_alloc_some _ ch, alloc_at _ _, HB1.out.alloc (by rw [HSZ1.out]; omega) _, by simp, by rw [HSZ1.out]; omega⟩)
    have hgl : ∀ g, og = some g → g < w.heap.size := HG0.out
    have HGL := Lib.hid hgl
    clear hgl HSET1 HB1 HSZ1 c1 cl ch
    generalize wc.alloc (.cells #[.int .u64 lo, .int .u64 hi] 123) = wd at *
    generalize wc.heap.size = c at *
    have hkl := kOf_le hi (iOf_le xs lo)
    have hkg := kOf_ge xs (iOf xs lo) hi
    rw [HN.out] at hkl hil
    generalize hie : iOf xs lo = i0 at *
    have HIE := Lib.hid hie
    clear hie
    go_cut [9] (fun kv wx => kv = .int .i64 (kOf xs i0 hi) ∧ AddSt w wx b most (.slice oa n cap) og xs lo hi c (fuse (lo, hi) ((xs.take (kOf xs i0 hi)).drop i0)))
    case first =>
      go_wp2_with fail
      go_loopw [9] (fun kv wr => ∃ k : Nat, kv = .int .i64 k ∧ i0 ≤ k ∧ k ≤ kOf xs i0 hi ∧ AddSt w wr b most (.slice oa n cap) og xs lo hi c (fuse (lo, hi) ((xs.take k).drop i0))) (fun kv _ => n - (intOf kv).toNat)
      case atStart => exact ⟨i0, rfl, by omega, hkg, by rw [show (xs.take i0).drop i0 = [] by simp]; exact H0.out⟩
      case round =>
        obtain ⟨k, rfl, hk1, hk2, hst⟩ := hrel
        have HST := Lib.hid hst
        have cb := cell_at hst.set.1 1
        have cl := hst.lo
        have ch := hst.hi
        have cr0 := cell_at hst.cur 0
        have cr1 := cell_at hst.cur 1
        have fr0 := free_at hst.cur 0
        have fr1 := free_at hst.cur 1
        simp at cb cr0 cr1
        clear hst H0
        by_cases hlt : k < kOf xs i0 hi
        · obtain ⟨r, hr, hr2⟩ := kOf_lt hk1 hlt
          obtain ⟨g, hog, rfl, _, c2, c3⟩ := HST.out.set.2.1.atS hr
          have hkn : (k : Int) < (n : Int) := by omega
          have HF := Lib.hid (fuse_step (r := (lo, hi)) hk1 hr)
          have hgc : g ≠ c := fun e => by have h1 := HGL.out g hog; have h2 := HST.out.far; omega
          clear hr hog
          generalize fuse (lo, hi) ((xs.take k).drop i0) = f at *
          go_wp2_with fail
          go_quiet (fail)
          go_wp2_with fail
          go_region
          go_wp2
          go_roundw
          case rel =>
            refine ⟨k + 1, by go_num, by omega, by omega, ?_⟩
            rw [HF.out]
            have hp := (HST.out.drewN (nq + 1)).put hbl HGL.out (min f.1 r.1, max f.2 r.2)
            rw [minI, maxI]
            exact hp
          case measure => simp [intOf]; omega
        · obtain rfl : k = kOf xs i0 hi := by omega
          generalize hke : kOf xs i0 hi = k at *
          have HKE := Lib.hid hke
          clear hke
          by_cases hkn : k < n
          · obtain ⟨r, hr⟩ : ∃ r, xs[k]? = some r := ⟨_, List.getElem?_eq_getElem (by rw [HN.out]; exact hkn)⟩
            obtain ⟨g, hog, rfl, _, c2, c3⟩ := HST.out.set.2.1.atS hr
            have hr2 : hi < r.1 := kOf_end (xs := xs) (by rw [HKE.out]; exact hr)
            clear hr hog c3
            go_wp2_with fail
            go_quiet (fail)
            go_wp2
            go_meet
            exact ⟨rfl, HST.out.drewN _⟩
          · go_wp2_with fail
            go_quiet (fail)
            go_wp2
            go_meet
            exact ⟨rfl, HST.out.drewN _⟩
    case rest =>
      obtain ⟨rfl, hst⟩ := hcut
      generalize hke : kOf xs i0 hi = k at *
      have HKE := Lib.hid hke
      have HST := Lib.hid hst
      have cb := cell_at hst.set.1 1
      have cr0 := cell_at hst.cur 0
      have cr1 := cell_at hst.cur 1
      simp at cb cr0 cr1
      clear hst H0 hke
      generalize hfe : fuse (lo, hi) ((xs.take k).drop i0) = f at *
      have HFE := Lib.hid hfe
      clear hfe
      have hrep := replace_any (.slice oa n cap) og xs i0 k wc.heap.size f (wc.alloc (.cells #[.int .u64 f.1, .int .u64 f.2] 123)).drew
        (by exact HST.out.set.2.1.below ((Below.refl wc.heap.size wc).alloc (Nat.le_refl _) (.cells #[.int .u64 f.1, .int .u64 f.2] 123)).drew) hkg (by rw [HN.out]; exact hkl) (by exact alloc_at _ _)
        (fun e => by have h1 := HGL.out _ e; have h2 := HST.out.size; have h3 := HST.out.far; omega) (by rw [HN.out]; exact hlen)
      have hbw : (wc.alloc (.cells #[.int .u64 f.1, .int .u64 f.2] 123)).drew.heap[b]? = some (.cells #[.int .i64 most, .slice oa n cap] 134 (0, 0)) := alloc_old HST.out.set.1
      have hne := HST.out.set.2.2
      have HREP := Lib.hid (hrep.mono (R' := fun e w5 => ∃ oa5 n5 cap5 og5, e = .returned (.slice oa5 n5 cap5) ∧ Sl w5 (.slice oa5 n5 cap5) og5 (xs.take i0 ++ f :: xs.drop k) ∧
          (og5 = og ∨ ∃ g, og5 = some g ∧ wc.heap.size + 1 ≤ g) ∧ Upd (fun j => og = some j) (wc.alloc (.cells #[.int .u64 f.1, .int .u64 f.2] 123)).drew w5 ∧ w5.cell? ⟨b, 1, none⟩ = some (.slice oa n cap) ∧ w5.frozen? ⟨b, 1, none⟩ = false ∧
          w5.heap[b]? = some (.cells #[.int .i64 most, .slice oa n cap] 134 (0, 0)))
        (by
          rintro e w5 ⟨v5, og5, rfl, hsl, ho, hup⟩
          obtain ⟨oa5, cap5, rfl, _, _⟩ := hsl.shape
          have hb5 := hup.keeps hbw hne
          have cb5 := cell_at hb5 1
          exact ⟨_, _, _, og5, rfl, hsl, by simpa using ho, hup, by simpa using cb5, free_at hb5 1, hb5⟩))
      clear hrep hbw
      have cba := fun o => Lib.cell?_alloc_some o cb
      go_wp2_with fail
      go_region_with (go_at_call 85; refine HREP.out.mono ?_; rintro e w5 ⟨oa5, n5, cap5, og5, rfl, hsl, hog5, hup, cb5, fb5, hb5⟩)
      all_goals (have HF := Lib.hid (add_fin HST.out hbl HGL.out hsl hog5 hup hb5))
      all_goals (have fb6 := cell_at (set_store hb5 (.slice oa5 n5 cap5)) 1)
      all_goals clear hsl hog5 hup cb5 fb5 hb5 cba cb cr0 cr1 HREP HST
      all_goals go_wp2_with fail
      all_goals (refine (trim_any _ _ _ _ _ HF.out.1 hm hm2).mono ?_; rintro e w7 ⟨rfl, ht⟩)
      all_goals (have HT := Lib.hid ht)
      all_goals (have cl7 := Lib.hid (ht.cell HF.out.2.2.1 (by omega) (by rintro rfl; rcases HF.out.2.2.2.2 with hx | ⟨g, hx, hg⟩; (have := HGL.out _ hx.symm; omega); (cases hx; omega))))
      all_goals (have ch7 := Lib.hid (ht.cell HF.out.2.2.2.1 (by omega) (by rintro rfl; rcases HF.out.2.2.2.2 with hx | ⟨g, hx, hg⟩; (have := HGL.out _ hx.symm; omega); (cases hx; omega))))
      all_goals obtain ⟨og7, ⟨v7, hs7⟩, _, _⟩ := ht
      all_goals (have cb7 := cell_at hs7.1 1)
      all_goals simp at cb7
      all_goals (have HS7 := Lib.hid hs7.2.1)
      all_goals clear hs7 fb6
      all_goals go_wp2_with fail
      all_goals (refine (contains_meet lo hi w.heap.size (w.heap.size + 1) v7 og7 _ w7 HS7.out cl7.out ch7.out).mono ?_; rintro e w8 ⟨rfl, hb8⟩)
      all_goals (have HB8 := Lib.hid hb8)
      all_goals (have hadd : addL most xs lo hi = trimL most (xs.take i0 ++ f :: xs.drop k) := by unfold addL addRaw; rw [HIE.out, HKE.out, HFE.out])
      all_goals (have HADD := Lib.hid hadd)
      all_goals clear hadd hb8 cb7
      all_goals go_wp2
      all_goals go_ret
      all_goals rw [HADD.out]
      all_goals exact ⟨rfl, (HT.out.next HF.out.2.1 (HF.out.2.2.2.2.imp id (fun ⟨g, h1, h2⟩ => ⟨g, h1, by omega⟩))).later HB8.out⟩

theorem add_any (b : Nat) (most : Int) (og : Option Nat) (xs : List Rg) (lo hi : Nat) (w : World) (h : SetAt w b most og xs) (hm : 1 ≤ most) (hm2 : most ≤ 9223372036854775807) (hlen : (xs.length + 1) * 16 ≤ 140737488355328) :
    Calls Tryz.prog 69 #[.pointer (some ⟨b, 0, none⟩), .int .u64 lo, .int .u64 hi] w fun e w' =>
      e = .returned (.bool (if lo < hi ∧ hi ≤ 4611686018427387904 then (addL most xs lo hi).any (meetP lo hi) else false)) ∧ Turned w b most og (if lo < hi ∧ hi ≤ 4611686018427387904 then addL most xs lo hi else xs) w' := by
  by_cases hc : lo < hi ∧ hi ≤ 4611686018427387904
  · simp only [hc, and_self, if_true]
    exact add_yes b most og xs lo hi w h hm hm2 hlen hc.1 hc.2
  · simp only [hc, if_false]
    exact (add_no b lo hi w hc).mono fun e w' ⟨he, hb⟩ => ⟨he, Turned.ofBelow h hb⟩
end Go.Proofs.YtnneoeimgbemfaaGreat

/- DERIVED. Walk of outbuf's Lost. -/
namespace Go.Proofs.YtnneoeimgbemfaaGreat
open Go.RowKit

theorem cut_ab {lo hi : Nat} {xs : List Rg} (h : ∀ r ∈ xs, hi ≤ r.1) : cutRaw lo hi xs = xs := by
  induction xs with
  | nil => simp [cutRaw]
  | cons r xs ih =>
    have e : cutRaw lo hi (r :: xs) = cut1 lo hi r ++ cutRaw lo hi xs := by simp [cutRaw]
    rw [e, ih (fun x hx => h x (List.mem_cons_of_mem _ hx)), cut1, if_pos (.inr (.inr (h r (List.mem_cons_self ..))))]
    rfl
theorem cut_le (lo hi : Nat) : ∀ xs : List Rg, Norm xs → (cutRaw lo hi xs).length ≤ xs.length + 1
  | [], _ => by simp [cutRaw]
  | r :: xs, hn => by
    obtain ⟨h1, h2⟩ := hn.head
    have ih := cut_le lo hi xs hn.tail
    have e : cutRaw lo hi (r :: xs) = cut1 lo hi r ++ cutRaw lo hi xs := by simp [cutRaw]
    rw [e, List.length_append, List.length_cons]
    by_cases h : hi < r.2
    · have := cut1_len lo hi r
      rw [cut_ab (fun x hx => by have := h2 x hx; omega)]
      omega
    · have : (cut1 lo hi r).length ≤ 1 := by
        unfold cut1
        split
        · simp
        · split <;> simp
      omega
/-- What is lost behind a number of cuts by what is acknowledged. -/
def lostY (s : OS) (y0 : List Rg) (k : Nat) : List Rg := (s.xs.take k).foldl (fun y x => cutRaw x.1 x.2 y) y0
theorem lostY_succ {s : OS} {y0 : List Rg} {k : Nat} {r : Rg} (h : s.xs[k]? = some r) : lostY s y0 (k + 1) = cutRaw r.1 r.2 (lostY s y0 k) := by
  unfold lostY
  rw [List.take_add_one, h, List.foldl_append]
  rfl
def OS.lostB (s : OS) (r : Nat × Nat) : List Rg := if r.1 < r.2 then addL many s.ys r.1 r.2 else s.ys
/-- The buffer while what is acknowledged is cut out; the copy of its ranges is apart. -/
def LostR (w0 w : World) (fp : Nat → Prop) (b : Nat) (s : OS) (v : Value) (og : Option Nat) (xs : List Rg) : Prop :=
  ∃ fp', OAt w b s fp' ∧ Went fp fp' w0 w ∧ Sl w v og xs ∧ ∀ g, og = some g → ¬ fp' g
theorem lost_next {w0 w W W8 : World} {fp : Nat → Prop} {b : Nat} {s : OS} {v vb : Value} {og ob : Option Nat} {xs zs : List Rg} {c d : Nat} {oc od : Option Nat} (h : ∃ hb : Below w.heap.size w W, Went fp (OFp b c d ob oc od) w0 w ∧ Sl w v og xs ∧ ∀ g, og = some g → ¬ OFp b c d ob oc od g)
    (hO : OutAt W b s vb ob c oc d od) (t : Turned W d many od (trimL many zs) W8) (hz : Norm zs ∧ zs.length ≤ 100000) : LostR w0 W8 fp b { s with ys := zs } v og xs := by
  obtain ⟨hb, hw, hs, hg⟩ := h
  have e : trimL many zs = zs := trim_all (by unfold many; omega)
  rw [e] at t
  obtain ⟨fp', h1, h2⟩ := om_turnD hO (Went.refl _ W) t hz.1 hz.2
  have hs2 := hs.below hb
  have hsl := hs2.lt
  refine ⟨fp', h1, (hw.later hb).trans h2, hs2.keeps h2.upd (fun g e q => hg g e q), fun g e q => ?_⟩
  rcases h2.new g q with q | q
  · exact hg g e q
  · have := hsl g e
    omega
end Go.Proofs.YtnneoeimgbemfaaGreat

/- DERIVED. Walk of outbuf's Waits. -/
namespace Go.Proofs.YtnneoeimgbemfaaGreat
open Go.RowKit

theorem opart_any (b : Nat) (s : OS) (fp : Nat → Prop) (limit : Nat) (w : World) (h : OAt w b s fp) (hlim : limit < 18446744073709551616) {f t : Nat} (hp : s.part limit = (f, t)) :
    Calls Tryz.prog 62 #[.pointer (some ⟨b, 0, none⟩), .int .u64 limit] w fun e w' => e = .returned (.tuple #[.int .u64 f, .int .u64 t]) ∧ Below w.heap.size w w' := by
  cases hys : s.ys with
  | nil =>
    unfold OS.part at hp
    rw [hys] at hp
    simp only [Prod.mk.injEq] at hp
    rw [← hp.1]
    exact opart_nil b s fp limit t w h hlim hys hp.2
  | cons r rest =>
    unfold OS.part at hp
    rw [hys] at hp
    simp only at hp
    have := opart_cons b s fp limit r rest w h hys
    rw [hp] at this
    exact this
theorem oend_e (b : Nat) (s : OS) (fp : Nat → Prop) (w : World) (h : OAt w b s fp) {en : Bool} (he : s.ende = en) : Calls Tryz.prog 64 #[.pointer (some ⟨b, 0, none⟩)] w fun e w' => e = .returned (.bool en) ∧ ∃ n, w' = w.drewN n := by
  rw [← he]
  exact oend_q b s fp w h
/-- Is something to be sent? -/
def OS.waits (s : OS) (limit : Nat) : Bool := decide ((s.part limit).1 < (s.part limit).2) || (decide (s.sent = s.B.length) && s.ende)
end Go.Proofs.YtnneoeimgbemfaaGreat
