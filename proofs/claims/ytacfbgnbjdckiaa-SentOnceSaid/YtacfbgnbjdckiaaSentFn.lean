/- DERIVED. Walks of sent's closures, copied, New, and readers. -/
import Derived.Test.YtacfbgnbjdckiaaSentPart
import Derived.Test.YtacfbgnbjdckiaaHas
import Derived.Laws.ResultCell
namespace Go.Proofs.Ytacfbgnbjdckiaa
open Go.RowKit

theorem results_cell {fn : Func} {p : Tmp} {ty : TypeId} (h : fn.results = #[.cell p ty]) (tmps : Array Value) (P : Program) (w : World) :
    (results fn tmps).run P w = ((asAddr (tmps.getD p undef)).run P w).andThen fun a w1 => (loadVar ty a).run P w1 := by
  simp only [results, h]
  simp [Sem.run_bind, Result.andThen]
set_option maxRecDepth 100000 in
set_option maxHeartbeats 1000000 in
theorem copied_any (p : Pk) (w : World) : Calls Try.prog 19 #[.agg (encQ p).toArray] w fun e w' => e = .returned (.agg (encQ p).toArray) ∧ Below w.heap.size w w' := by
  simp only [encQ]
  go_enter Try.func19, Try.ntmps19
  go_upto_region 0 with fail
  go_cut [1, 2] (fun v1 v2 wx => ∃ z y, v1 = .pointer (some ⟨z, 0, none⟩) ∧ v2 = .pointer (some ⟨y, 0, none⟩) ∧ z ≠ y ∧ w.heap.size ≤ z ∧ w.heap.size ≤ y ∧ Below w.heap.size w wx ∧
    wx.heap[z]? = some (.cells #[.int .u64 p.n, .int .i64 p.t, .int .i64 p.z, .bool p.a, .slice none 0 0] 32 (0, 0)) ∧ wx.heap[y]? = some (.cells #[.int .u64 0, .int .i64 0, .int .i64 0, .bool false, .slice none 0 0] 32 (0, 0)))
  case first =>
    go_wp2_with fail
    go_meet
    case rel =>
      refine ⟨_, _, rfl, rfl, ?_, Nat.le_refl _, ?_, ((Below.refl _ _).alloc (Nat.le_refl _) _).alloc (by simp) _, alloc_old (alloc_at _ _), ?_⟩
      · simp
      · simp
      · have := alloc_at (w.alloc (.cells #[.int .u64 p.n, .int .i64 p.t, .int .i64 p.z, .bool p.a, .slice none 0 0] 32)) (.cells #[.int .u64 0, .int .i64 0, .int .i64 0, .bool false, .slice none 0 0] 32)
        simpa using this
  case rest =>
    obtain ⟨z, y, rfl, rfl, hne, hz, hy, hb, hkz, hky⟩ := hcut
    generalize wc = w1 at *
    have z0 := (cell_at hkz 0).trans (by rfl : _ = some (Value.int .u64 p.n))
    have z1 := (cell_at hkz 1).trans (by rfl : _ = some (Value.int .i64 p.t))
    have z2 := (cell_at hkz 2).trans (by rfl : _ = some (Value.int .i64 p.z))
    have z3 := (cell_at hkz 3).trans (by rfl : _ = some (Value.bool p.a))
    have z4 := (cell_at hkz 4).trans (by rfl : _ = some (Value.slice none 0 0))
    have zf := free_at hkz 4
    have y0 := (cell_at hky 0).trans (by rfl : _ = some (Value.int .u64 0))
    have y1 := (cell_at hky 1).trans (by rfl : _ = some (Value.int .i64 0))
    have y2 := (cell_at hky 2).trans (by rfl : _ = some (Value.int .i64 0))
    have y3 := (cell_at hky 3).trans (by rfl : _ = some (Value.bool false))
    have y4 := (cell_at hky 4).trans (by rfl : _ = some (Value.slice none 0 0))
    have g0 := free_at hky 0
    have g1 := free_at hky 1
    have g2 := free_at hky 2
    have g3 := free_at hky 3
    have g4 := free_at hky 4
    have HB := Lib.hid hb
    have HK := Lib.hid (And.intro hkz hky)
    clear hb hkz hky
    go_wp2_with fail
    go_loopw [3, 9] (fun l i wr => l = .slice none 0 0 ∧ i = .int .i64 0 ∧ wr = w1) (fun _ _ _ => 0)
    case atStart => exact ⟨rfl, rfl, rfl⟩
    case round =>
      obtain ⟨rfl, rfl, rfl⟩ := hrel
      have hne2 : y ≠ z := fun e => hne e.symm
      go_wp2_with fail
      refine bodyPost_ret (v := .agg #[.int .u64 p.n, .int .i64 p.t, .int .i64 p.z, .bool p.a, .slice none 0 0]) ?_ rfl ⟨rfl, ?_⟩
      · rw [results_cell rfl]
        go_simp
      · exact (((((HB.out.setCell (p := ⟨z, 4, none⟩) hz _).setCell (p := ⟨y, 0, none⟩) hy _).setCell (p := ⟨y, 1, none⟩) hy _).setCell (p := ⟨y, 2, none⟩) hy _).setCell (p := ⟨y, 3, none⟩) hy _).setCell (p := ⟨y, 4, none⟩) hy _
set_option maxRecDepth 100000 in
set_option maxHeartbeats 1000000 in
theorem lnew_any (w : World) : Calls Try.prog 7 #[] w fun e w' => ∃ b, e = .returned (.pointer (some ⟨b, 0, none⟩)) ∧ LMine w w' b LS.zero := by
  go_enter Try.func7, Try.ntmps7
  go_wp2_with fail
  go_ret
  refine ⟨w.heap.size, rfl, _, ⟨.slice none 0 0, none, ⟨alloc_at _ _, SlG.nil _, LS.zero_ok⟩, rfl⟩, ?_, (Below.refl _ _).alloc (Nat.le_refl _) _⟩
  rintro k (rfl | q)
  · exact Nat.le_refl _
  · cases q
set_option maxHeartbeats 1000000 in
theorem lnext_q (b : Nat) (s : LS) (fp : Nat → Prop) (w : World) (h : LAt w b s fp) : Calls Try.prog 28 #[.pointer (some ⟨b, 0, none⟩)] w fun e w' => e = .returned (.int .u64 s.nx) ∧ ∃ n, w' = w.drewN n := by
  obtain ⟨c, _⟩ := h.cells
  go_enter Try.func28, Try.ntmps28
  go_wp2_with fail
  go_ret
  exact ⟨rfl, 0, rfl⟩
set_option maxHeartbeats 1000000 in
theorem llen_q (b : Nat) (s : LS) (fp : Nat → Prop) (w : World) (h : LAt w b s fp) : Calls Try.prog 12 #[.pointer (some ⟨b, 0, none⟩)] w fun e w' => e = .returned (.int .i64 s.L.length) ∧ ∃ n, w' = w.drewN n := by
  obtain ⟨v, og, hL, _⟩ := h
  obtain ⟨oa, cap, rfl, hc1, hc2⟩ := hL.row.shape
  have c0 : w.cell? ⟨b, 0, none⟩ = some (.slice oa s.L.length cap) := (cell_at hL.blk 0).trans rfl
  clear hL
  generalize s.L.length = len at *
  go_enter Try.func12, Try.ntmps12
  go_wp2_with fail
  go_ret
  exact ⟨rfl, 0, rfl⟩
set_option maxRecDepth 100000 in
set_option maxHeartbeats 1000000 in
theorem ack1_fn (c d : Nat) (og : Option Nat) (m : Int) (xs : List Rg) (p : Pk) (w : World) (hc : w.cell? ⟨c, 0, none⟩ = some (.pointer (some ⟨d, 0, none⟩))) (hs : SetAt w d m og xs) :
    Calls Try.prog 24 #[.agg (encQ p).toArray, .pointer (some ⟨c, 0, none⟩)] w fun e w' => e = .returned (.bool (xs.any (hasP p.n))) ∧ Below w.heap.size w w' := by
  have ha := fun o => Lib.cell?_alloc_some o hc
  have HS := Lib.hid hs
  clear hs
  simp only [encQ]
  go_enter Try.func24, Try.ntmps24
  go_wp2_with fail
  refine (shas_any d m og xs p.n _ (by exact HS.out.below ((Below.refl _ _).alloc (Nat.le_refl _) _))).mono ?_
  rintro e w2 ⟨rfl, hb⟩
  have HB := Lib.hid (below_call ((Below.refl w.heap.size w).alloc (Nat.le_refl _) _) (by simp) hb)
  clear hb
  go_wp2_with fail
  go_ret
  exact ⟨rfl, HB.out⟩
set_option maxRecDepth 100000 in
set_option maxHeartbeats 1000000 in
theorem ack2_fn (c b : Nat) (ak : Nat) (p : Pk) (w : World) (hc : w.cell? ⟨c, 0, none⟩ = some (.pointer (some ⟨b, 0, none⟩))) (hb : w.cell? ⟨b, 2, none⟩ = some (.int .u64 ak)) (hp : p.n ≤ 4611686018427387904) :
    Calls Try.prog 26 #[.agg (encQ p).toArray, .pointer (some ⟨c, 0, none⟩)] w fun e w' => e = .returned (.bool (decide (p.n + 3 ≤ ak))) ∧ Below w.heap.size w w' := by
  have ha := fun o => Lib.cell?_alloc_some o hc
  have hb2 := fun o => Lib.cell?_alloc_some o hb
  obtain ⟨q, hq, hq2⟩ : ∃ q : Nat, (p.n : Int) + 3 = (q : Int) ∧ p.n + 3 = q := ⟨p.n + 3, by omega, rfl⟩
  have hqb : q ≤ 4611686018427387907 := by omega
  rw [hq2]
  clear hq2
  simp only [encQ]
  go_enter Try.func26, Try.ntmps26
  go_wp2_with fail
  go_quiet (fail)
  go_wp2_with fail
  go_ret
  refine ⟨fn_end ?_, below_drewN ((Below.refl w.heap.size w).alloc (Nat.le_refl _) _) _⟩
  simp
end Go.Proofs.Ytacfbgnbjdckiaa
