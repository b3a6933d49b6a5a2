/- DERIVED. Walks of inbuf's readers. -/
import Derived.Test.YtebiebcpdjipjaaAll
import Derived.Test.YtebiebcpdjipjaaInbNew
import Derived.Deep.DeepCutAuto
import Derived.Deep.CutBlock
import Derived.Deep.RegionHeld3
namespace Go.Proofs.Ytebiebcpdjipjaa
open Go.RowKit

theorem IbAt.cells {w : World} {b : Nat} {s : IB} {fp : Nat → Prop} (h : IbAt w b s fp) :
    w.cell? ⟨b, 0, none⟩ = some (.int .u64 s.rd) ∧ w.cell? ⟨b, 1, none⟩ = some (.int .u64 s.hi) ∧ w.cell? ⟨b, 2, none⟩ = some (.int .u64 s.fin) ∧ w.cell? ⟨b, 3, none⟩ = some (.bool s.kn) := by
  obtain ⟨c, og, xs, cs, h, _⟩ := h
  exact ⟨by rw [cell_at h.blk, h.c0], by rw [cell_at h.blk, h.c1], by rw [cell_at h.blk, h.c2], by rw [cell_at h.blk, h.c3]⟩
theorem IbAt.bd {w : World} {b : Nat} {s : IB} {fp : Nat → Prop} (h : IbAt w b s fp) : s.rd ≤ 1099511628288 ∧ s.hi ≤ 1099511628288 ∧ s.fin ≤ 1099511628288 ∧ s.rd + rdy s.L ≤ 1099511628288 := by
  have ho := h.ok
  have h1 := ho.hi
  have h2 := ho.fin
  have h3 := ho.top
  have h4 := rdy_le s.L
  omega

set_option maxHeartbeats 400000 in
theorem bread_q (b : Nat) (s : IB) (fp : Nat → Prop) (w : World) (h : IbAt w b s fp) :
    Calls Try.prog 28 #[.pointer (some ⟨b, 0, none⟩)] w fun e w' => e = .returned (.int .u64 s.rd) ∧ ∃ n, w' = w.drewN n := by
  obtain ⟨c0, _, _, _⟩ := h.cells
  clear h
  go_enter Try.func28, Try.ntmps28
  go_wp2
  go_ret
  exact ⟨rfl, 0, rfl⟩
set_option maxHeartbeats 400000 in
theorem bhigh_q (b : Nat) (s : IB) (fp : Nat → Prop) (w : World) (h : IbAt w b s fp) :
    Calls Try.prog 27 #[.pointer (some ⟨b, 0, none⟩)] w fun e w' => e = .returned (.int .u64 s.hi) ∧ ∃ n, w' = w.drewN n := by
  obtain ⟨_, c0, _, _⟩ := h.cells
  clear h
  go_enter Try.func27, Try.ntmps27
  go_wp2
  go_ret
  exact ⟨rfl, 0, rfl⟩
set_option maxHeartbeats 400000 in
theorem bfinal_q (b : Nat) (s : IB) (fp : Nat → Prop) (w : World) (h : IbAt w b s fp) :
    Calls Try.prog 24 #[.pointer (some ⟨b, 0, none⟩)] w fun e w' => e = .returned (.tuple #[.int .u64 s.fin, .bool s.kn]) ∧ ∃ n, w' = w.drewN n := by
  obtain ⟨_, _, c0, c1⟩ := h.cells
  clear h
  go_enter Try.func24, Try.ntmps24
  go_wp2
  go_quiet (fail)
  go_wp2
  go_ret2
  exact ⟨rfl, _, rfl⟩

theorem find_take {p : Rg → Bool} {xs : List Rg} {k : Nat} {r : Rg} (h : xs[k]? = some r) (h0 : (xs.take k).find? p = none) (h1 : p r = false) : (xs.take (k + 1)).find? p = none := by
  rw [List.take_add_one, h, List.find?_append, h0]
  simp [h1]
theorem find_hit {p : Rg → Bool} {xs : List Rg} {k : Nat} {r : Rg} (h : xs[k]? = some r) (h0 : (xs.take k).find? p = none) (h1 : p r = true) : xs.find? p = some r := by
  have e : xs = xs.take k ++ r :: xs.drop (k + 1) := by
    rw [← drop_at h, List.take_append_drop]
  rw [e, List.find?_append, h0]
  simp [h1]

theorem readyOf_hit {xs : List Rg} {rd : Nat} {r : Rg} (h : xs.find? (hasP rd) = some r) : readyOf xs rd = r.2 := by
  unfold readyOf
  rw [h]
theorem readyOf_none {xs : List Rg} {rd : Nat} (h : xs.find? (hasP rd) = none) : readyOf xs rd = rd := by
  unfold readyOf
  rw [h]
set_option maxRecDepth 100000 in
set_option maxHeartbeats 1000000 in
theorem bready_any (b : Nat) (s : IB) (fp : Nat → Prop) (w : World) (h : IbAt w b s fp) :
    Calls Try.prog 45 #[.pointer (some ⟨b, 0, none⟩)] w fun e w' => e = .returned (.int .u64 ((s.rd + rdy s.L : Nat) : Int)) ∧ Below w.heap.size w w' := by
  obtain ⟨c0, _, _, _⟩ := h.cells
  obtain ⟨hb1, _, _, hb2⟩ := h.bd
  obtain ⟨c, og, xs, cs, h, hfp⟩ := h
  have hfew := h.is.few h.ok
  have hrd := h.is.ready
  have hbl : b < w.heap.size := heap_lt h.blk
  have c5 : w.cell? ⟨b, 2052, none⟩ = some (.pointer (some ⟨c, 0, none⟩)) := by rw [cell_at h.blk, h.c5]
  have HC := Lib.hid h.came
  have HR := Lib.hid hrd
  clear h hfp hrd
  go_enter Try.func45, Try.ntmps45
  go_wp2_with fail
  refine (all_any c 2048 og xs _ (by exact HC.out) (by omega)).mono ?_
  rintro e w1 ⟨va, oga, rfl, hsl, hnew, hb⟩
  have d0 := cell_keep hb hbl c0
  obtain ⟨oa, cap, rfl, hc1, hc2⟩ := hsl.shape
  have HS := Lib.hid hsl
  have HB := Lib.hid hb
  have hbl1 : b < w1.heap.size := Nat.lt_of_lt_of_le hbl hb.size
  clear hsl hnew hb c0 c5 HC
  generalize hn : xs.length = len at *
  have HN := Lib.hid hn
  clear hn
  go_wp2_with fail
  go_loopw [11] (fun i wr => ∃ k : Nat, i = .int .i64 k ∧ k ≤ len ∧ (xs.take k).find? (hasP s.rd) = none ∧ Below w1.heap.size w1 wr) (fun i _ => len - (intOf i).toNat)
  case atStart => exact ⟨0, rfl, by omega, rfl, Below.refl _ _⟩
  case round =>
    obtain ⟨k, rfl, hk, hf, hb⟩ := hrel
    have HF := Lib.hid hf
    have HB2 := Lib.hid hb
    have e0 := cell_keep hb hbl1 d0
    clear hf hb
    by_cases hlt : k < len
    · obtain ⟨r, hr⟩ : ∃ r, xs[k]? = some r := ⟨_, List.getElem?_eq_getElem (by rw [HN.out]; exact hlt)⟩
      obtain ⟨g, hog, rfl, hgl, q0, q1⟩ := HS.out.atS hr
      have e1 := cell_keep HB2.out hgl q0
      have e2 := cell_keep HB2.out hgl q1
      have HX := Lib.hid hr
      have ha0 := fun o => Lib.cell?_alloc_some o e0
      clear q0 q1 hog hr
      by_cases h1 : r.1 ≤ s.rd
      · by_cases h2 : s.rd < r.2
        · go_wp2_with fail
          go_quiet (fail)
          go_wp2_with fail
          go_ret
          refine ⟨ret_i64 ?_, below_call HB.out HB.out.size (below_call (HB2.out.alloc HB2.out.size _) (Nat.le_trans HB2.out.size (by simp)) (below_drewN (Below.refl _ _) _))⟩
          rw [← HR.out, readyOf_hit (find_hit HX.out HF.out (by simp [hasP, h1, h2]))]
        · go_wp2_with fail
          go_quiet (fail)
          go_wp2_with fail
          go_roundw
          case rel => exact ⟨k + 1, by go_num, by omega, find_take HX.out HF.out (by simp [hasP]; omega), below_drewN (HB2.out.alloc HB2.out.size _) _⟩
          case measure => simp [intOf]; omega
      · have h1' : decide (r.1 ≤ s.rd) = false := decide_eq_false h1
        go_wp2_with fail
        go_quiet (fail)
        go_wp2_with fail
        go_roundw
        case rel => exact ⟨k + 1, by go_num, by omega, find_take HX.out HF.out (by simp [hasP]; omega), below_drewN (HB2.out.alloc HB2.out.size _) _⟩
        case measure => simp [intOf]; omega
    · go_wp2_with fail
      go_ret
      refine ⟨ret_i64 ?_, below_call HB.out HB.out.size HB2.out⟩
      have := HF.out
      rw [List.take_of_length_le (by rw [HN.out]; omega)] at this
      rw [← HR.out, readyOf_none this]

theorem bready_z (b : Nat) (s : IB) (fp : Nat → Prop) (w : World) (h : IbAt w b s fp) {z : Nat} (hz : s.rd + rdy s.L = z) :
    Calls Try.prog 45 #[.pointer (some ⟨b, 0, none⟩)] w fun e w' => e = .returned (.int .u64 z) ∧ Below w.heap.size w w' := by
  subst hz
  exact bready_any b s fp w h

set_option maxRecDepth 100000 in
set_option maxHeartbeats 1000000 in
theorem bRdy_any (b : Nat) (s : IB) (fp : Nat → Prop) (w : World) (h : IbAt w b s fp) :
    Calls Try.prog 46 #[.pointer (some ⟨b, 0, none⟩)] w fun e w' => e = .returned (.int .i64 (rdy s.L : Nat)) ∧ Below w.heap.size w w' := by
  obtain ⟨c0, _, _, _⟩ := h.cells
  obtain ⟨hb1, _, _, hb2⟩ := h.bd
  have hbl : b < w.heap.size := h.lt.2 b h.lt.1
  have H := Lib.hid h
  clear h
  obtain ⟨z, hz⟩ : ∃ z, s.rd + rdy s.L = z := ⟨_, rfl⟩
  have HZ := Lib.hid hz
  have hw1 : IntKind.u64.wrap ((z : Int) - s.rd) = (rdy s.L : Nat) := by rw [IntWalk.u64_in _ (by omega)]; omega
  have hw2 : IntKind.i64.wrap ((rdy s.L : Nat) : Int) = (rdy s.L : Nat) := IntWalk.i64_in _ (by omega)
  clear hz
  go_enter Try.func46, Try.ntmps46
  go_wp2_with fail
  go_region_held3 (fun w' => w'.cell? ⟨b, 0, none⟩ = w.cell? ⟨b, 0, none⟩) (go_keep)
    (first | (go_at_call 45; refine (bready_z b s fp _ (by exact H.out.drew) HZ.out).mono ?_; rintro e w' ⟨rfl, hb⟩; have k0 := (hb.cell (p := ⟨b, 0, none⟩) (by exact hbl)).trans (by exact c0)))
  rename_i hHeld
  have HB := Lib.hid (below_call (Below.refl w.heap.size w).drew (Nat.le_refl _) hb)
  clear hb hHeld
  go_wp2
  go_ret
  exact ⟨rfl, HB.out⟩

set_option maxRecDepth 100000 in
set_option maxHeartbeats 1000000 in
theorem bwhole_any (b : Nat) (s : IB) (fp : Nat → Prop) (w : World) (h : IbAt w b s fp) :
    Calls Try.prog 25 #[.pointer (some ⟨b, 0, none⟩)] w fun e w' => e = .returned (.bool s.whole) ∧ Below w.heap.size w w' := by
  obtain ⟨_, _, c2, c3⟩ := h.cells
  obtain ⟨hb1, hb3, hb4, hb2⟩ := h.bd
  have hbl : b < w.heap.size := h.lt.2 b h.lt.1
  have H := Lib.hid h
  clear h
  obtain ⟨z, hz⟩ : ∃ z, s.rd + rdy s.L = z := ⟨_, rfl⟩
  have HZ := Lib.hid hz
  have HW := Lib.hid (show s.whole = (s.kn && decide (z = s.fin)) by rw [IB.whole, hz])
  clear hz
  rw [HW.out]
  cases hk : s.kn
  · rw [hk] at c3
    go_enter Try.func25, Try.ntmps25
    go_wp2_with fail
    go_quiet (fail)
    go_wp2
    go_ret
    exact ⟨rfl, below_drewN (Below.refl _ _) _⟩
  · rw [hk] at c3
    go_enter Try.func25, Try.ntmps25
    go_wp2_with fail
    go_region_held3 (fun w' => w'.cell? ⟨b, 2, none⟩ = w.cell? ⟨b, 2, none⟩ ∧ w'.cell? ⟨b, 3, none⟩ = w.cell? ⟨b, 3, none⟩) (go_keep)
      (first | (go_at_call 45; refine (bready_z b s fp _ (by exact H.out.drew) HZ.out).mono ?_; rintro e w' ⟨rfl, hb⟩; have k0 := (hb.cell (p := ⟨b, 2, none⟩) (by exact hbl)).trans (by exact c2); have k1 := (hb.cell (p := ⟨b, 3, none⟩) (by exact hbl)).trans (by exact c3)))
    rename_i hHeld
    have HB := Lib.hid (below_call (Below.refl w.heap.size w).drew (Nat.le_refl _) hb)
    clear hb hHeld
    go_wp2
    go_ret
    exact ⟨fn_end (by simp [eqN]), HB.out⟩
end Go.Proofs.Ytebiebcpdjipjaa
