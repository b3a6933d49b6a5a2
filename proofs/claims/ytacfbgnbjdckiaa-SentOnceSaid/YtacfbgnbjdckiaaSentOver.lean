/- DERIVED. Walk of sent's Ack, where a range is not known. -/
import Derived.Test.YtacfbgnbjdckiaaSentRd
namespace Go.Proofs.Ytacfbgnbjdckiaa
open Go.RowKit

set_option maxRecDepth 100000 in
set_option maxHeartbeats 2000000 in
theorem lack_over (b : Nat) (s : LS) (fp : Nat → Prop) (vr : Value) (rs : List Rg) (top : Nat) (w : World) {B : Nat} (h : LAt w b s fp) (hv : Vw encR w B vr rs) (hB : B ≤ w.heap.size) (hn : Norm rs) (hl : rs.length ≤ 1000) (hp : 0 < rs.length)
    (htop : ∀ r, rs[rs.length - 1]? = some r → r.2 = top) (hle : s.nx < top) (htp : top ≤ 4611686018427387904) :
    Calls Try.prog 10 #[.pointer (some ⟨b, 0, none⟩), vr] w fun e w' => e = .returned (.tuple #[.slice none 0 0, .slice none 0 0, .int .i64 14]) ∧ Below w.heap.size w w' := by
  obtain ⟨oa, cap, rfl, hc1, hc2⟩ := hv.shape
  have H := Lib.hid h
  have HN := Lib.hid hn
  obtain ⟨len, hlen⟩ : ∃ len, rs.length = len := ⟨_, rfl⟩
  obtain ⟨nx, hnx⟩ : ∃ nx, s.nx = nx := ⟨_, rfl⟩
  obtain ⟨rl, hrl⟩ : ∃ rl, rs[rs.length - 1]? = some rl := ⟨_, List.getElem?_eq_getElem (by omega)⟩
  have hrt := htop rl hrl
  rw [hlen] at hrl hl hp hc1
  have HLEN := Lib.hid hlen
  have HNX := Lib.hid hnx
  rw [hnx] at hle
  have HV2 := Lib.hid (show Vw encR w B (.slice oa len cap) rs from by rw [← hlen]; exact hv)
  rw [hlen]
  obtain ⟨cr, ofr, rfl, hcr, p0, p1⟩ := HV2.out.rng hrl
  have hcrw : cr < w.heap.size := by omega
  rw [hrt] at p1
  clear h hv hn htop hlen hnx p0 hrl hrt
  go_enter Try.func10, Try.ntmps10
  go_upto_region 0 with fail
  go_cut [2, 4, 5, 6] (fun v a c e wx => ∃ z, v = .pointer (some ⟨z, 0, none⟩) ∧ w.heap.size ≤ z ∧ Below w.heap.size w wx ∧ wx.heap[z]? = some (.cells #[.pointer (some ⟨b, 0, none⟩)] 24 (0, 0)))
  case first =>
    go_wp2_with fail
    go_meet
    case rel => exact ⟨_, rfl, Nat.le_refl _, (Below.refl _ _).alloc (Nat.le_refl _) _, alloc_at _ _⟩
  case rest =>
    obtain ⟨z, rfl, hz, hb1, hkz⟩ := hcut
    generalize wc = w1 at *
    have HB1 := Lib.hid hb1
    have HKZ := Lib.hid hkz
    clear hb1 hkz
    go_wp2_with fail
    refine (right_norm _ rs _ (by exact HV2.out.below (HB1.out.mono hB)) (Nat.le_trans hB HB1.out.size) HN.out (by rw [HLEN.out]; exact hl) (by rw [HLEN.out]; exact hp)).mono ?_
    rintro e w2 ⟨rfl, hb2⟩
    have HB2 := Lib.hid (below_call HB1.out HB1.out.size hb2)
    have hkz2 := below_keeps hb2 HKZ.out (heap_lt HKZ.out)
    have HL2 := Lib.hid (H.out.below HB2.out)
    have p1 := cell_keep HB2.out hcrw p1
    have x0 := (cell_at hkz2 0).trans (by rfl : _ = some (Value.pointer (some ⟨b, 0, none⟩)))
    have e1 : w2.cell? ⟨b, 1, none⟩ = some (.int .u64 nx) := by rw [HL2.out.cells.1, HNX.out]
    have hsub : (len : Int) - 1 = ((len - 1 : Nat) : Int) := by omega
    have hsb : len - 1 < len := by omega
    clear hb2 hkz2
    go_wp2_with fail
    go_ret3
    exact ⟨rfl, HB2.out⟩
end Go.Proofs.Ytacfbgnbjdckiaa
