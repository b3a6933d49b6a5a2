/- DERIVED. Walks of sent's Flight, Oldest, Last; of Ack where the ranges are not known. -/
import Derived.Test.YtacfbgnbjdckiaaSentAck
namespace Go.Proofs.Ytacfbgnbjdckiaa
open Go.RowKit

def sumZ (L : List Pk) : Int := (L.map (·.z)).foldl (· + ·) 0
theorem sumZ_snoc (L : List Pk) (p : Pk) : sumZ (L ++ [p]) = sumZ L + p.z := by simp [sumZ]
theorem sumZ_le : ∀ {L : List Pk}, (∀ p ∈ L, 0 ≤ p.z ∧ p.z ≤ 512) → 0 ≤ sumZ L ∧ sumZ L ≤ 512 * L.length := by
  have key : ∀ (L : List Pk) (a : Int), (∀ p ∈ L, 0 ≤ p.z ∧ p.z ≤ 512) → a ≤ (L.map (·.z)).foldl (· + ·) a ∧ (L.map (·.z)).foldl (· + ·) a ≤ a + 512 * L.length := by
    intro L
    induction L with
    | nil => intro a _; simp
    | cons p L ih =>
      intro a h
      have h1 := h p (List.mem_cons_self ..)
      have h2 := ih (a + p.z) (fun q hq => h q (List.mem_cons_of_mem _ hq))
      simp only [List.map_cons, List.foldl_cons, List.length_cons]
      omega
  intro L h
  have := key L 0 h
  unfold sumZ
  omega
set_option maxRecDepth 100000 in
set_option maxHeartbeats 1000000 in
theorem lflight_any (b : Nat) (s : LS) (fp : Nat → Prop) (w : World) (h : LAt w b s fp) : Calls Try.prog 13 #[.pointer (some ⟨b, 0, none⟩)] w fun e w' => e = .returned (.int .i64 (sumZ s.L)) ∧ Below w.heap.size w w' := by
  obtain ⟨vL, og, hL, _⟩ := h
  obtain ⟨oa, cap, rfl, hc1, hc2⟩ := hL.row.shape
  have c0 : w.cell? ⟨b, 0, none⟩ = some (.slice oa s.L.length cap) := (cell_at hL.blk 0).trans rfl
  have HV := Lib.hid hL.row.vw
  have HOK := Lib.hid hL.ok
  have hl := hL.ok.len
  clear hL
  generalize hlen : s.L.length = len at *
  have HLEN := Lib.hid hlen
  have HS0 := Lib.hid (show Below w.heap.size w w ∧ (0 : Int) = sumZ (s.L.take 0) from ⟨Below.refl _ _, rfl⟩)
  clear hlen
  go_enter Try.func13, Try.ntmps13
  go_wp2_with fail
  go_loopw [3, 11] (fun n i wr => ∃ k : Nat, i = .int .i64 k ∧ k ≤ len ∧ n = .int .i64 (sumZ (s.L.take k)) ∧ Below w.heap.size w wr) (fun _ i _ => len - (intOf i).toNat)
  case atStart => exact ⟨0, rfl, by omega, by rw [← HS0.out.2], HS0.out.1⟩
  case round =>
    obtain ⟨k, rfl, hk, rfl, hb⟩ := hrel
    have HB := Lib.hid hb
    clear hb HS0
    by_cases hlt : k < len
    · obtain ⟨p, hp⟩ : ∃ p, s.L[k]? = some p := ⟨_, List.getElem?_eq_getElem (by rw [HLEN.out]; exact hlt)⟩
      obtain ⟨c, ofc, rfl, hc, q0, q1, q2, q3, q4⟩ := HV.out.pkt hp
      have q0 := cell_keep HB.out hc q0
      have q1 := cell_keep HB.out hc q1
      have q2 := cell_keep HB.out hc q2
      have q3 := cell_keep HB.out hc q3
      have q4 := cell_keep HB.out hc q4
      have hzp := HOK.out.z p (List.mem_of_getElem? hp)
      have hsn : sumZ (s.L.take (k + 1)) = sumZ (s.L.take k) + p.z := by
        rw [List.take_add_one, hp]
        exact sumZ_snoc _ _
      have hsb := sumZ_le (L := s.L.take k) (fun q hq => HOK.out.z q (List.mem_of_mem_take hq))
      have htl : (s.L.take k).length ≤ 64 := by rw [List.length_take, HLEN.out]; omega
      have HSN := Lib.hid hsn
      generalize sumZ (s.L.take k) = sk at *
      obtain ⟨hs1, hs2⟩ := hsb
      have hs3 : sk ≤ 40000 := by omega
      clear hp hs2 htl hsn
      go_wp2_with fail
      go_roundw
      case rel => exact ⟨k + 1, by go_num, by omega, by rw [HSN.out], HB.out.alloc HB.out.size _⟩
      case measure => simp [intOf]; omega
    · obtain rfl : k = len := by omega
      have htk : s.L.take k = s.L := by rw [← HLEN.out, List.take_length]
      have HTK := Lib.hid htk
      clear htk
      go_wp2_with fail
      go_ret
      refine ⟨?_, HB.out⟩
      rw [HTK.out]
      first | rfl | trivial
set_option maxRecDepth 100000 in
set_option maxHeartbeats 1000000 in
theorem llast_some (b : Nat) (s : LS) (fp : Nat → Prop) (p : Pk) (w : World) (h : LAt w b s fp) (hp : s.L[s.L.length - 1]? = some p) : Calls Try.prog 17 #[.pointer (some ⟨b, 0, none⟩)] w fun e w' => e = .returned (.tuple #[.int .i64 p.t, .bool true]) ∧ Below w.heap.size w w' := by
  obtain ⟨vL, og, hL, _⟩ := h
  obtain ⟨oa, cap, rfl, hc1, hc2⟩ := hL.row.shape
  have c0 : w.cell? ⟨b, 0, none⟩ = some (.slice oa s.L.length cap) := (cell_at hL.blk 0).trans rfl
  obtain ⟨c, ofc, rfl, hc, _, q1, _, _, _⟩ := hL.row.vw.pkt hp
  have hpos : 0 < s.L.length := by have := (List.getElem?_eq_some_iff.1 hp).1; omega
  have hl := hL.ok.len
  clear hL hp
  generalize s.L.length = len at *
  have hsub : (len : Int) - 1 = ((len - 1 : Nat) : Int) := by omega
  have hsb : len - 1 < len := by omega
  have hn0 : ¬ len = 0 := by omega
  go_enter Try.func17, Try.ntmps17
  go_wp2_with fail
  go_quiet (fail)
  go_wp2_with fail
  go_ret2
  exact ⟨rfl, below_drewN (Below.refl _ _) _⟩
set_option maxRecDepth 100000 in
set_option maxHeartbeats 1000000 in
theorem llast_none (b : Nat) (s : LS) (fp : Nat → Prop) (w : World) (h : LAt w b s fp) (hp : s.L = []) : Calls Try.prog 17 #[.pointer (some ⟨b, 0, none⟩)] w fun e w' => e = .returned (.tuple #[.int .i64 0, .bool false]) ∧ Below w.heap.size w w' := by
  obtain ⟨vL, og, hL, _⟩ := h
  obtain ⟨oa, cap, rfl, hc1, hc2⟩ := hL.row.shape
  have c0 : w.cell? ⟨b, 0, none⟩ = some (.slice oa 0 cap) := by rw [cell_at hL.blk, hp]; rfl
  clear hL
  go_enter Try.func17, Try.ntmps17
  go_wp2_with fail
  go_ret2
  exact ⟨rfl, Below.refl _ _⟩
set_option maxRecDepth 100000 in
set_option maxHeartbeats 1000000 in
theorem lold_some (b : Nat) (s : LS) (fp : Nat → Prop) (p : Pk) (w : World) (h : LAt w b s fp) (hp : s.L[0]? = some p) : Calls Try.prog 16 #[.pointer (some ⟨b, 0, none⟩)] w fun e w' => e = .returned (.tuple #[.agg (encQ p).toArray, .bool true]) ∧ Below w.heap.size w w' := by
  obtain ⟨vL, og, hL, _⟩ := h
  obtain ⟨oa, cap, rfl, hc1, hc2⟩ := hL.row.shape
  have HBLK := Lib.hid hL.blk
  obtain ⟨c, ofc, rfl, hc, q0, q1, q2, q3, q4⟩ := hL.row.vw.pkt hp
  simp only [Nat.zero_mul, Nat.add_zero] at q0 q1 q2 q3 q4
  have hpos : 0 < s.L.length := by have := (List.getElem?_eq_some_iff.1 hp).1; omega
  have hl := hL.ok.len
  clear hL hp
  have HC := Lib.hid (show ∀ W, Below w.heap.size w W → W.cell? ⟨b, 0, none⟩ = some (.slice (some ⟨c, ofc, none⟩) s.L.length cap) from fun W hb => (cell_at (below_keeps hb HBLK.out (heap_lt HBLK.out)) 0).trans rfl)
  clear HBLK
  generalize s.L.length = len at *
  have hn0 : ¬ len = 0 := by omega
  simp only [encQ]
  go_enter Try.func16, Try.ntmps16
  go_upto_region 0 with fail
  go_cut [2] (fun v wx => ∃ y, v = .pointer (some ⟨y, 0, none⟩) ∧ w.heap.size ≤ y ∧ Below w.heap.size w wx ∧ wx.heap[y]? = some (.cells #[.int .u64 0, .int .i64 0, .int .i64 0, .bool false, .slice none 0 0] 32 (0, 0)))
  case first =>
    go_wp2_with fail
    go_meet
    case rel => exact ⟨_, rfl, Nat.le_refl _, (Below.refl _ _).alloc (Nat.le_refl _) _, alloc_at _ _⟩
  case rest =>
    obtain ⟨y, rfl, hy, hb, hky⟩ := hcut
    generalize wc = w1 at *
    have c0 := HC.out _ hb
    have q0 := cell_keep hb hc q0
    have q1 := cell_keep hb hc q1
    have q2 := cell_keep hb hc q2
    have q3 := cell_keep hb hc q3
    have q4 := cell_keep hb hc q4
    have HB := Lib.hid hb
    have HKY := Lib.hid hky
    clear hb hky
    go_wp2_with fail
    refine (copied_any p _).mono ?_
    rintro e w2 ⟨rfl, hb2⟩
    have hky := below_keeps hb2 HKY.out (heap_lt HKY.out)
    have y0 := (cell_at hky 0).trans (by rfl : _ = some (Value.int .u64 0))
    have y1 := (cell_at hky 1).trans (by rfl : _ = some (Value.int .i64 0))
    have y2 := (cell_at hky 2).trans (by rfl : _ = some (Value.int .i64 0))
    have y3 := (cell_at hky 3).trans (by rfl : _ = some (Value.bool false))
    have y4 := (cell_at hky 4).trans (by rfl : _ = some (Value.slice none 0 0))
    have g0 := free_at hky 0
    have g1 := free_at hky 1
    have g2 := free_at hky 2
    have g3 := free_at hky 3
    have g4 := free_at hky 4
    have HB2 := Lib.hid (below_call HB.out HB.out.size hb2)
    clear hb2 hky q0 q1 q2 q3 q4 c0
    simp only [encQ]
    go_wp2_with fail
    (try simp only [Exit.inBlock, Exit.then])
    refine bodyPost_ret (v := .tuple #[.agg #[.int .u64 p.n, .int .i64 p.t, .int .i64 p.z, .bool p.a, .slice none 0 0], .bool true]) ?_ rfl ⟨rfl, ?_⟩
    · rw [results_cell_tmp rfl]
      go_simp
    · exact ((((HB2.out.setCell (p := ⟨y, 0, none⟩) hy _).setCell (p := ⟨y, 1, none⟩) hy _).setCell (p := ⟨y, 2, none⟩) hy _).setCell (p := ⟨y, 3, none⟩) hy _).setCell (p := ⟨y, 4, none⟩) hy _
set_option maxRecDepth 100000 in
set_option maxHeartbeats 1000000 in
theorem lold_none (b : Nat) (s : LS) (fp : Nat → Prop) (w : World) (h : LAt w b s fp) (hp : s.L = []) : Calls Try.prog 16 #[.pointer (some ⟨b, 0, none⟩)] w fun e w' => e = .returned (.tuple #[.agg #[.int .u64 0, .int .i64 0, .int .i64 0, .bool false, .slice none 0 0], .bool false]) ∧ Below w.heap.size w w' := by
  obtain ⟨vL, og, hL, _⟩ := h
  obtain ⟨oa, cap, rfl, hc1, hc2⟩ := hL.row.shape
  have HBLK := Lib.hid hL.blk
  have HC := Lib.hid (show ∀ W, Below w.heap.size w W → W.cell? ⟨b, 0, none⟩ = some (.slice oa 0 cap) from fun W hb => by rw [cell_at (below_keeps hb HBLK.out (heap_lt HBLK.out)), hp]; rfl)
  clear hL HBLK
  go_enter Try.func16, Try.ntmps16
  go_upto_region 0 with fail
  go_cut [2] (fun v wx => ∃ y, v = .pointer (some ⟨y, 0, none⟩) ∧ w.heap.size ≤ y ∧ Below w.heap.size w wx ∧ wx.heap[y]? = some (.cells #[.int .u64 0, .int .i64 0, .int .i64 0, .bool false, .slice none 0 0] 32 (0, 0)))
  case first =>
    go_wp2_with fail
    go_meet
    case rel => exact ⟨_, rfl, Nat.le_refl _, (Below.refl _ _).alloc (Nat.le_refl _) _, alloc_at _ _⟩
  case rest =>
    obtain ⟨y, rfl, hy, hb, hky⟩ := hcut
    generalize wc = w1 at *
    have c0 := HC.out _ hb
    have y0 := (cell_at hky 0).trans (by rfl : _ = some (Value.int .u64 0))
    have y1 := (cell_at hky 1).trans (by rfl : _ = some (Value.int .i64 0))
    have y2 := (cell_at hky 2).trans (by rfl : _ = some (Value.int .i64 0))
    have y3 := (cell_at hky 3).trans (by rfl : _ = some (Value.bool false))
    have y4 := (cell_at hky 4).trans (by rfl : _ = some (Value.slice none 0 0))
    have g0 := free_at hky 0
    have g1 := free_at hky 1
    have g2 := free_at hky 2
    have g3 := free_at hky 3
    have g4 := free_at hky 4
    have HB2 := Lib.hid hb
    clear hb hky
    go_wp2_with fail
    (try simp only [Exit.inBlock, Exit.then])
    refine bodyPost_ret (v := .tuple #[.agg #[.int .u64 0, .int .i64 0, .int .i64 0, .bool false, .slice none 0 0], .bool false]) ?_ rfl ⟨rfl, ?_⟩
    · rw [results_cell_tmp rfl]
      go_simp
    · exact ((((HB2.out.setCell (p := ⟨y, 0, none⟩) hy _).setCell (p := ⟨y, 1, none⟩) hy _).setCell (p := ⟨y, 2, none⟩) hy _).setCell (p := ⟨y, 3, none⟩) hy _).setCell (p := ⟨y, 4, none⟩) hy _
end Go.Proofs.Ytacfbgnbjdckiaa
