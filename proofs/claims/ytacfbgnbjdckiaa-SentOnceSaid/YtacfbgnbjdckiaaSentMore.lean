/- DERIVED. Walks of sent's Add of a packet that does not ask, Ack of no ranges, Clear. -/
import Derived.Test.YtacfbgnbjdckiaaKRng
namespace Go.Proofs.Ytacfbgnbjdckiaa
open Go.RowKit

def LS.skips (s : LS) (n : Nat) : LS := { s with nx := n + 1 }
set_option maxRecDepth 100000 in
set_option maxHeartbeats 2000000 in
theorem ladd_no (b : Nat) (s : LS) (fp : Nat → Prop) (n : Nat) (t sz : Int) (w : World) (h : LAt w b s fp) (hn : s.nx ≤ n) (hn2 : n < 4611686018427387903) (ht : 0 ≤ t) (_ht2 : t ≤ 9223372036854775807) (hs : 0 ≤ sz) (hs2 : sz ≤ 512) :
    Calls Try.prog 8 #[.pointer (some ⟨b, 0, none⟩), .agg #[.int .u64 n, .int .i64 t, .int .i64 sz, .bool false, .slice none 0 0]] w fun e w' => e = .returned (.int .i64 0) ∧ LM w w' fp b (s.skips n) := by
  obtain ⟨nx, hnx⟩ : ∃ nx, s.nx = nx := ⟨_, rfl⟩
  have HNX := Lib.hid hnx
  have HN := Lib.hid hn
  have HH := Lib.hid h
  rw [hnx] at hn
  clear h hnx
  go_enter Try.func8, Try.ntmps8
  go_upto_region 0 with fail
  go_cut [3] (fun v wx => ∃ z, v = .pointer (some ⟨z, 0, none⟩) ∧ w.heap.size ≤ z ∧ Below w.heap.size w wx ∧ wx.heap[z]? = some (.cells #[.int .u64 n, .int .i64 t, .int .i64 sz, .bool false, .slice none 0 0] 32 (0, 0)))
  case first =>
    go_wp2_with fail
    go_meet
    case rel => exact ⟨_, rfl, Nat.le_refl _, (Below.refl _ _).alloc (Nat.le_refl _) _, alloc_at _ _⟩
  case rest =>
    obtain ⟨z, rfl, hz, hb1, hkz⟩ := hcut
    generalize wc = w1 at *
    have HB1 := Lib.hid hb1
    have H1 := Lib.hid (HH.out.below hb1)
    have b1 : w1.cell? ⟨b, 1, none⟩ = some (.int .u64 nx) := by rw [H1.out.cells.1, HNX.out]
    have z0 := (cell_at hkz 0).trans (by rfl : _ = some (Value.int .u64 n))
    have z1 := (cell_at hkz 1).trans (by rfl : _ = some (Value.int .i64 t))
    have z2 := (cell_at hkz 2).trans (by rfl : _ = some (Value.int .i64 sz))
    have z3 := (cell_at hkz 3).trans (by rfl : _ = some (Value.bool false))
    have h1 : ¬ (n : Int) < nx := by omega
    have h1n : ¬ n < nx := by omega
    have h2n : ¬ 4611686018427387903 ≤ n := by omega
    have h2 : ¬ (4611686018427387903 : Int) ≤ n := by omega
    have h3 : ¬ t < 0 := by omega
    have h4 : ¬ sz < 0 := by omega
    have h5 : ¬ 512 < sz := by omega
    obtain ⟨n1, hn1, hn1b⟩ : ∃ n1 : Nat, (n : Int) + 1 = (n1 : Int) ∧ n + 1 = n1 := ⟨n + 1, by omega, rfl⟩
    have hnw : IntKind.u64.wrap (n1 : Int) = (n1 : Int) := IntWalk.u64_in _ (by omega)
    have HN1 := Lib.hid hn1b
    have hbz : ¬ b = z := by have := HH.out.lt.2 b HH.out.lt.1; omega
    clear hb1 hkz hn1b hn hn2
    go_upto_region 1 with fail
    go_cut [31] (fun v wx => v = .bool false ∧ ∃ q, wx = w1.drewN q)
    case first =>
      go_wp2_with fail
      go_quiet (fail)
      go_wp2_with fail
      go_meet
      case rel =>
        refine ⟨?_, _, rfl⟩
        congr 1
        simp only [Bool.or_eq_false_iff, decide_eq_false_iff_not]
        exact ⟨⟨⟨by omega, by omega⟩, by omega⟩, by omega⟩
    case rest =>
      obtain ⟨rfl, q, rfl⟩ := hcut
      have HM := Lib.hid (show LM w ((w1.drewN q).setCell ⟨b, 1, none⟩ (.int .u64 n1)) fp b (s.skips n) from by
        obtain ⟨v, og, hL, hfp⟩ := H1.out.drewN q
        have hu : Upd (fun j => j = b) (w1.drewN q) ((w1.drewN q).setCell ⟨b, 1, none⟩ (.int .u64 n1)) := (Upd.refl (fun j => j = b) _).setCell ⟨b, 1, none⟩ (.inl rfl) _
        have ok := hL.ok
        have hsk := set_at hL.blk 1 (.int .u64 n1)
        have hap := hL.apart
        refine ⟨_, ⟨v, og, ⟨hsk.trans ?_, hL.row.keeps hu (fun g e q => hap (by rw [e, q])), ⟨ok.len, ?_, ok.ak, fun p hp => ?_, ok.z, ok.t⟩⟩, hfp⟩, ?_, fun g hg => .inl hg⟩
        · rw [← HN1.out]
          rfl
        · show n + 1 ≤ _
          omega
        · show p.n < n + 1
          have := ok.num p hp
          have := HN.out
          omega
        · rw [hfp]
          exact ((Upd.below (below_drewN HB1.out q)).mono (fun j hj x => by omega) : Upd (fun j => j = b ∨ og = some j) w (w1.drewN q)).then (hu.mono (fun j _ x => .inl x)))
      have b1 : (w1.drewN q).cell? ⟨b, 1, none⟩ = _ := b1
      have z0 : (w1.drewN q).cell? ⟨z, 0, none⟩ = _ := z0
      have z3 : (w1.drewN q).cell? ⟨z, 3, none⟩ = _ := z3
      have g1 : (w1.drewN q).frozen? ⟨b, 1, none⟩ = false := by
        obtain ⟨v, og, hL, hfp⟩ := H1.out.drewN q
        exact free_at hL.blk 1
      generalize w1.drewN q = w2 at *
      clear h1 h1n h2n h2 h3 h4 h5 z1 z2
      go_wp2_with fail
      go_ret
      exact ⟨rfl, HM.out⟩
set_option maxRecDepth 100000 in
set_option maxHeartbeats 2000000 in
theorem right_none (oa : Option Addr) (cap : Nat) (w : World) : Calls Try.prog 20 #[.slice oa 0 cap] w fun e w' => e = .returned (.bool false) ∧ Below w.heap.size w w' := by
  go_enter Try.func20, Try.ntmps20
  go_wp2_with fail
  go_loopw [3, 7] (fun _ i wr => i = .int .i64 0 ∧ wr = w) (fun _ _ _ => 0)
  case atStart => exact ⟨rfl, rfl⟩
  case round =>
    obtain ⟨rfl, rfl⟩ := hrel
    go_wp2_with fail
    go_ret
    exact ⟨rfl, Below.refl _ _⟩
set_option maxRecDepth 100000 in
set_option maxHeartbeats 2000000 in
theorem lack_none (b : Nat) (oa : Option Addr) (cap : Nat) (w : World) :
    Calls Try.prog 10 #[.pointer (some ⟨b, 0, none⟩), .slice oa 0 cap] w fun e w' => e = .returned (.tuple #[.slice none 0 0, .slice none 0 0, .int .i64 1]) ∧ Below w.heap.size w w' := by
  go_enter Try.func10, Try.ntmps10
  go_upto_region 0 with fail
  go_cut [2, 4, 5, 6] (fun v a c e wx => ∃ z, v = .pointer (some ⟨z, 0, none⟩) ∧ Below w.heap.size w wx)
  case first =>
    go_wp2_with fail
    go_meet
    case rel => exact ⟨_, rfl, (Below.refl _ _).alloc (Nat.le_refl _) _⟩
  case rest =>
    obtain ⟨z, rfl, hb1⟩ := hcut
    generalize wc = w1 at *
    have HB1 := Lib.hid hb1
    clear hb1
    go_wp2_with fail
    refine (right_none oa cap _).mono ?_
    rintro e w2 ⟨rfl, hb2⟩
    have HB2 := Lib.hid (below_call HB1.out HB1.out.size hb2)
    clear hb2
    go_wp2_with fail
    go_ret3
    exact ⟨rfl, HB2.out⟩
set_option maxRecDepth 100000 in
set_option maxHeartbeats 2000000 in
theorem clear_fn (p : Pk) (w : World) : Calls Try.prog 27 #[.agg (encQ p).toArray] w fun e w' => e = .returned (.bool true) ∧ Below w.heap.size w w' := by
  simp only [encQ]
  go_enter Try.func27, Try.ntmps27
  go_wp2_with fail
  go_ret
  exact ⟨rfl, (Below.refl _ _).alloc (Nat.le_refl _) _⟩
end Go.Proofs.Ytacfbgnbjdckiaa
