/- DERIVED. Walks of the document's buffer: Ready, Whole. -/
import Derived.Test.YtojklmbbepgciaaInbSt
import Derived.Test.YtojklmbbepgciaaHeld
import Derived.Deep.DeepCutAuto
import Derived.Deep.CutBlock
namespace Go.Proofs.Ytojklmbbepgciaa
open Go.RowKit

theorem RbAt.cells {w : World} {m : Nat} {s : IB} {fp : Nat → Prop} (h : RbAt w m s fp) :
    w.cell? ⟨m, 0, none⟩ = some (.int .u64 s.rd) ∧ w.cell? ⟨m, 1, none⟩ = some (.int .u64 s.hi) ∧ w.cell? ⟨m, 2, none⟩ = some (.int .u64 s.fin) ∧ w.cell? ⟨m, 3, none⟩ = some (.bool s.kn) := by
  obtain ⟨vB, vC, ob, oc, h, _⟩ := h
  exact ⟨by rw [cell_at h.blk]; rfl, by rw [cell_at h.blk]; rfl, by rw [cell_at h.blk]; rfl, by rw [cell_at h.blk]; rfl⟩
theorem RbAt.bd {w : World} {b : Nat} {s : IB} {fp : Nat → Prop} (h : RbAt w b s fp) : s.rd ≤ 1099511628288 ∧ s.hi ≤ 1099511628288 ∧ s.fin ≤ 1099511628288 ∧ s.rd + rdy s.L ≤ 1099511628288 := by
  have ho := h.ok
  have h1 := ho.hi
  have h2 := ho.fin
  have h3 := ho.top
  have h4 := rdy_le s.L
  omega
set_option maxRecDepth 100000 in
set_option maxHeartbeats 1000000 in
theorem rready_q (m : Nat) (s : IB) (fp : Nat → Prop) (w : World) (h : RbAt w m s fp) :
    Calls Try.prog 33 #[.pointer (some ⟨m, 0, none⟩)] w fun e w' => e = .returned (.int .i64 (rdy s.L : Nat)) ∧ ∃ n, w' = w.drewN n := by
  have hlen := h.ok.len
  obtain ⟨vB, vC, ob, oc, h, _⟩ := h
  obtain ⟨oa, cap, rfl, hc1, hc2⟩ := h.c.shape
  have c5 : w.cell? ⟨m, 5, none⟩ = some (.slice oa (s.L.map Option.isSome).length cap) := by rw [cell_at h.blk]; rfl
  have HC := Lib.hid h.c
  have HR := Lib.hid (rdy_le s.L)
  clear h
  rw [List.length_map] at *
  have hr := HR.out
  generalize hn : s.L.length = len at *
  have HN := Lib.hid hn
  clear hn
  go_enter Try.func33, Try.ntmps33
  go_wp2_with fail
  go_loopw [3] (fun i wr => ∃ k q : Nat, i = .int .i64 k ∧ k ≤ rdy s.L ∧ wr = w.drewN q) (fun i _ => len - (intOf i).toNat)
  case atStart => exact ⟨0, 0, rfl, by omega, rfl⟩
  case round =>
    obtain ⟨k, q, rfl, hk, rfl⟩ := hrel
    by_cases hlt : k < rdy s.L
    · obtain ⟨v, hv⟩ := rdy_lt hlt
      have hkl : k < len := by omega
      obtain ⟨g, hog, rfl, hgl, d0, d1⟩ := HC.out.el1 (f := Value.bool) (fun _ => rfl) (i := k) (a := true) (by
        unfold gt at hv
        rw [List.getElem?_map]
        cases hx : s.L[k]? with
        | none => rw [hx] at hv; cases hv
        | some o =>
          rw [hx] at hv
          simp at hv
          rw [hv]
          rfl)
      clear hog hv
      go_wp2_with fail
      go_roundw
      case rel => exact ⟨k + 1, _, by go_num, by omega, rfl⟩
      case measure => simp [intOf]; omega
    · obtain rfl : k = rdy s.L := by omega
      by_cases hkl : rdy s.L < len
      · obtain ⟨g, hog, rfl, hgl, d0, d1⟩ := HC.out.el1 (f := Value.bool) (fun _ => rfl) (i := rdy s.L) (a := false) (by
          have he := rdy_end s.L
          unfold gt at he
          rw [List.getElem?_map]
          rw [List.getElem?_eq_getElem (by rw [HN.out]; exact hkl)] at he ⊢
          simp at he
          simp [he])
        clear hog
        go_wp2_with fail
        go_ret
        exact ⟨rfl, _, rfl⟩
      · go_wp2_with fail
        go_ret
        exact ⟨rfl, _, rfl⟩

theorem rready_z (m : Nat) (s : IB) (fp : Nat → Prop) (w : World) (h : RbAt w m s fp) {r : Nat} (hr : rdy s.L = r) :
    Calls Try.prog 33 #[.pointer (some ⟨m, 0, none⟩)] w fun e w' => e = .returned (.int .i64 r) ∧ ∃ n, w' = w.drewN n := by
  subst hr
  exact rready_q m s fp w h
set_option maxRecDepth 100000 in
set_option maxHeartbeats 1000000 in
theorem rwhole_q (m : Nat) (s : IB) (fp : Nat → Prop) (w : World) (h : RbAt w m s fp) :
    Calls Try.prog 34 #[.pointer (some ⟨m, 0, none⟩)] w fun e w' => e = .returned (.bool s.whole) ∧ ∃ n, w' = w.drewN n := by
  obtain ⟨c0, _, c2, c3⟩ := h.cells
  obtain ⟨hb1, hb3, hb4, hb2⟩ := h.bd
  have hlen := h.ok.len
  have hrl := rdy_le s.L
  have H := Lib.hid h
  clear h
  obtain ⟨z, hz⟩ : ∃ z, s.rd + rdy s.L = z := ⟨_, rfl⟩
  have HW := Lib.hid (show s.whole = (s.kn && decide (z = s.fin)) by rw [IB.whole, hz])
  have hzz : (s.rd : Int) + (rdy s.L : Nat) = (z : Int) := by omega
  clear hz
  rw [HW.out]
  generalize s.kn = kn at *
  generalize hrr : rdy s.L = rr at *
  have HRR := Lib.hid hrr
  clear hrr
  have hw1 : IntKind.u64.wrap (rr : Int) = rr := IntWalk.u64_in _ (by omega)
  have hw2 : IntKind.u64.wrap ((s.rd : Int) + rr) = z := by rw [IntWalk.u64_in _ (by omega)]; exact hzz
  clear hzz
  cases kn
  · go_enter Try.func34, Try.ntmps34
    go_wp2_with fail
    go_quiet (fail)
    go_wp2_with fail
    go_ret
    exact ⟨rfl, _, rfl⟩
  · go_enter Try.func34, Try.ntmps34
    go_wp2_with fail
    go_quiet ((go_at_call 33; exact Calls.quiet_of (rready_z m s fp _ (H.out.drewN _) HRR.out)))
    go_wp2_with fail
    go_ret
    exact ⟨fn_end (by rw [Bool.true_and, ← eqN]), _, rfl⟩
end Go.Proofs.Ytojklmbbepgciaa
