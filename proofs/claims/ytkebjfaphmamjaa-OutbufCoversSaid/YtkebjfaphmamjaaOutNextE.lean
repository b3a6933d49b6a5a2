/- DERIVED. Walk of outbuf's Next, where no piece goes: nothing, or the end alone. -/
import Derived.Test.YtkebjfaphmamjaaOutNextG
namespace Go.Proofs.Ytkebjfaphmamjaa
open Go.RowKit

theorem slen_n (b : Nat) (og : Option Nat) (xs : List Rg) (w : World) (h : SetAt w b many og xs) (n : Nat) (hn : xs.length = n) : Calls Try.prog 23 #[.pointer (some ⟨b, 0, none⟩)] w fun e w' => e = .returned (.int .i64 n) ∧ ∃ n, w' = w.drewN n := by
  rw [← hn]
  exact slen_q b many og xs w h
set_option maxRecDepth 100000 in
set_option maxHeartbeats 2000000 in
theorem onext_none (b : Nat) (s : OS) (fp : Nat → Prop) (most : Int) (limit f t0 : Nat) (w : World) (h : OAt w b s fp) (hlim : limit < 18446744073709551616) (hpt : s.part limit = (f, t0)) (hft : f ≤ t0) (ht : min t0 (f + most.toNat) = f) (ht0 : t0 ≤ 1099511627776) (hno : s.ys = [] → s.sent = s.B.length → s.ende = false) (hm1 : -9223372036854775808 ≤ most) (hm : most ≤ 9223372036854775807) :
    Calls Try.prog 10 #[.pointer (some ⟨b, 0, none⟩), .int .i64 most, .int .u64 limit] w
      fun e w' => e = .returned (.tuple #[.int .u64 0, .slice none 0 0, .bool false, .bool false]) ∧ Below w.heap.size w w' := by
  have H := Lib.hid h
  have HPT := Lib.hid hpt
  have HNO := Lib.hid hno
  obtain ⟨mo, hmo⟩ : ∃ mo, most.toNat = mo := ⟨_, rfl⟩
  rw [hmo] at ht
  have hmb : mo ≤ 9223372036854775807 := by omega
  have hmm : max 0 most = (mo : Int) := by omega
  clear h hpt hno
  go_enter Try.func10, Try.ntmps10
  go_wp2_with fail
  refine (opart_any b s fp limit _ (by exact H.out) hlim HPT.out).mono ?_
  rintro e w1 ⟨rfl, hb⟩
  have HB := Lib.hid hb
  clear hb
  go_upto_region 2 with fail
  go_cut [11] (fun v wx => v = .int .u64 f ∧ wx = w1)
  case first =>
    have hwm : IntKind.u64.wrap (mo : Int) = mo := IntWalk.u64_in _ (by omega)
    obtain ⟨z, hz, hzt⟩ : ∃ z : Nat, (f : Int) + (mo : Int) = (z : Int) ∧ f + mo = z := ⟨f + mo, by omega, rfl⟩
    have hzb : (z : Int) < 18446744073709551616 := by omega
    have hwz : IntKind.u64.wrap (z : Int) = z := IntWalk.u64_in _ (by omega)
    rw [hzt] at ht
    rcases (by omega : (z < t0 ∧ f = z) ∨ (t0 < z ∧ f = t0) ∨ (t0 = z ∧ f = t0)) with ⟨q1, q3⟩ | ⟨q1, q3⟩ | ⟨q1, q3⟩
    all_goals rcases (by omega : (most < 0 ∧ mo = 0) ∨ (most = 0 ∧ mo = 0) ∨ (0 < most ∧ most = (mo : Int))) with ⟨p1, p2⟩ | ⟨p1, p2⟩ | ⟨p1, p2⟩
    all_goals clear ht
    all_goals first | omega | skip
    all_goals try subst p1
    all_goals try subst p2
    all_goals try subst q3
    all_goals try subst q1
    all_goals try clear hmo hmm hmb hm hm1
    all_goals go_wp2_with fail
    all_goals go_meet
    all_goals (case rel => exact ⟨by first | rfl | (congr 1; congr 1; omega), rfl⟩)
  case rest =>
    obtain ⟨rfl, rfl⟩ := hcut
    generalize wc = w1 at *
    have H1 := Lib.hid (H.out.below HB.out)
    obtain ⟨vb, ob, c, oc, d, od, hO, hfp⟩ := H1.out
    obtain ⟨e1, e2, e3, e6, e7, e8, e9⟩ := H1.out.cells
    have c5 : w1.cell? ⟨b, 5, none⟩ = some (.pointer (some ⟨d, 0, none⟩)) := (cell_at hO.blk 5).trans rfl
    have HO := Lib.hid hO
    have HSL := Lib.hid (show ∀ W, Below w1.heap.size w1 W → W.cell? ⟨b, 5, none⟩ = some (.pointer (some ⟨d, 0, none⟩)) ∧ W.cell? ⟨b, 2, none⟩ = some (.int .u64 s.B.length) ∧ W.cell? ⟨b, 3, none⟩ = some (.int .u64 s.sent) from fun W h => by
      have hk := below_keeps h hO.blk (heap_lt hO.blk)
      exact ⟨(cell_at hk 5).trans rfl, (cell_at hk 2).trans rfl, (cell_at hk 3).trans rfl⟩)
    have hlen := hO.ok.len
    have hsl := hO.ok.sent
    have hyl := hO.ok.ly
    have HNO' := Lib.hid (show s.ys.length = 0 → ¬ s.sent < s.B.length → s.ende = false from fun h1 h2 => HNO.out (by simpa using h1) (by omega))
    obtain ⟨n, hn⟩ : ∃ n, s.ys.length = n := ⟨_, rfl⟩
    have HN := Lib.hid hn
    rw [hn] at hyl HNO'
    generalize hse : s.sent = sent at *
    generalize hle : s.B.length = len at *
    generalize hee : s.ende = en at *
    have HE := Lib.hid hee
    clear hO hfp HNO hse hle hn hee hmm hmo
    have hffi : ((f : Int) == (f : Int)) = true := by simp
    rcases (by omega : (0 < n) ∨ (n = 0 ∧ sent < len) ∨ (n = 0 ∧ ¬ sent < len)) with q1 | ⟨q1, q2⟩ | ⟨q1, q2⟩
    · have q1i : (0 : Int) < (n : Int) := by omega
      go_wp2_with fail
      go_quiet ((go_at_call 23; exact Calls.quiet_of (slen_n d od _ _ (by exact HO.out.sy.below (below_drewN (Below.refl _ _) _)) n HN.out)))
      go_wp2_with fail
      (try simp only [Exit.inBlock, Exit.then])
      refine bodyPost_ret (results_tmp4 rfl _ _ _) rfl ?_
      exact ⟨rfl, below_drewN HB.out _⟩
    · subst q1
      have q2i : (sent : Int) < (len : Int) := by omega
      go_wp2_with fail
      go_quiet ((go_at_call 23; exact Calls.quiet_of (slen_n d od _ _ (by exact HO.out.sy.below (below_drewN (Below.refl _ _) _)) 0 HN.out)))
      go_wp2_with fail
      (try simp only [Exit.inBlock, Exit.then])
      refine bodyPost_ret (results_tmp4 rfl _ _ _) rfl ?_
      exact ⟨rfl, below_drewN HB.out _⟩
    · subst q1
      have q2i : ¬ (sent : Int) < (len : Int) := by omega
      have hen : en = false := HNO'.out rfl q2
      subst hen
      go_wp2_with fail
      go_quiet (first | (go_at_call 23; exact Calls.quiet_of (slen_n d od _ _ (by exact HO.out.sy.below (below_drewN (Below.refl _ _) _)) 0 HN.out)) | (go_at_call 24; exact Calls.quiet_of (oend_e b s _ _ (by exact H1.out.drewN _) HE.out)))
      go_wp2_with fail
      (try simp only [Exit.inBlock, Exit.then])
      refine bodyPost_ret (results_tmp4 rfl _ _ _) rfl ?_
      exact ⟨rfl, below_drewN HB.out _⟩
set_option maxRecDepth 100000 in
set_option maxHeartbeats 2000000 in
theorem onext_end (b : Nat) (s : OS) (fp : Nat → Prop) (most : Int) (limit : Nat) (w : World) (h : OAt w b s fp) (hlim : limit < 18446744073709551616) (hy : s.ys = []) (hsl0 : s.sent = s.B.length) (hen : s.ende = true) (hm1 : -9223372036854775808 ≤ most) (hm : most ≤ 9223372036854775807) :
    Calls Try.prog 10 #[.pointer (some ⟨b, 0, none⟩), .int .i64 most, .int .u64 limit] w
      fun e w' => e = .returned (.tuple #[.int .u64 s.B.length, .slice none 0 0, .bool true, .bool true]) ∧ OM w w' fp b { s with es := true, el := false } := by
  have H := Lib.hid h
  obtain ⟨f, hf⟩ : ∃ f, s.sent = f := ⟨_, rfl⟩
  obtain ⟨t0, hpt, ht1⟩ : ∃ t0, s.part limit = (f, t0) ∧ t0 = f := ⟨f, by unfold OS.part; rw [hy]; show (s.sent, _) = _; rw [hf, show max f (min limit s.B.length) = f by omega], rfl⟩
  have ht0 : t0 ≤ 1099511627776 := by have := h.ok.len; omega
  have ht : min t0 (f + most.toNat) = f := by omega
  have HPT := Lib.hid hpt
  have HY := Lib.hid hy
  have HSL0 := Lib.hid (show s.B.length = f by omega)
  have HSF := Lib.hid hf
  have HEN := Lib.hid hen
  obtain ⟨mo, hmo⟩ : ∃ mo, most.toNat = mo := ⟨_, rfl⟩
  rw [hmo] at ht
  have hmb : mo ≤ 9223372036854775807 := by omega
  have hmm : max 0 most = (mo : Int) := by omega
  rw [← hsl0, hf]
  clear h hpt hy hen hf hsl0
  go_enter Try.func10, Try.ntmps10
  go_wp2_with fail
  refine (opart_any b s fp limit _ (by exact H.out) hlim HPT.out).mono ?_
  rintro e w1 ⟨rfl, hb⟩
  have HB := Lib.hid hb
  clear hb
  go_upto_region 2 with fail
  go_cut [11] (fun v wx => v = .int .u64 f ∧ wx = w1)
  case first =>
    have hwm : IntKind.u64.wrap (mo : Int) = mo := IntWalk.u64_in _ (by omega)
    obtain ⟨z, hz, hzt⟩ : ∃ z : Nat, (f : Int) + (mo : Int) = (z : Int) ∧ f + mo = z := ⟨f + mo, by omega, rfl⟩
    have hzb : (z : Int) < 18446744073709551616 := by omega
    have hwz : IntKind.u64.wrap (z : Int) = z := IntWalk.u64_in _ (by omega)
    rw [hzt] at ht
    rcases (by omega : (z < t0 ∧ f = z) ∨ (t0 < z ∧ f = t0) ∨ (t0 = z ∧ f = t0)) with ⟨q1, q3⟩ | ⟨q1, q3⟩ | ⟨q1, q3⟩
    all_goals rcases (by omega : (most < 0 ∧ mo = 0) ∨ (most = 0 ∧ mo = 0) ∨ (0 < most ∧ most = (mo : Int))) with ⟨p1, p2⟩ | ⟨p1, p2⟩ | ⟨p1, p2⟩
    all_goals clear ht
    all_goals first | omega | skip
    all_goals try subst p1
    all_goals try subst p2
    all_goals try subst q3
    all_goals try subst q1
    all_goals try clear hmo hmm hmb hm hm1
    all_goals go_wp2_with fail
    all_goals go_meet
    all_goals (case rel => exact ⟨by first | rfl | (congr 1; congr 1; omega), rfl⟩)
  case rest =>
    obtain ⟨rfl, rfl⟩ := hcut
    generalize wc = w1 at *
    have H1 := Lib.hid (H.out.below HB.out)
    obtain ⟨vb, ob, c, oc, d, od, hO, hfp⟩ := H1.out
    obtain ⟨e1, e2, e3, e6, e7, e8, e9⟩ := H1.out.cells
    have c5 : w1.cell? ⟨b, 5, none⟩ = some (.pointer (some ⟨d, 0, none⟩)) := (cell_at hO.blk 5).trans rfl
    have HO := Lib.hid hO
    rw [HSL0.out] at e2
    rw [HSF.out] at e3
    have HWf := Lib.hid (show Went fp (OFp b c d ob oc od) w w1 from by
      rw [← hfp]
      exact Went.first HB.out (Went.refl fp w1))
    clear hO hfp hmm hmo
    have hffi : ((f : Int) == (f : Int)) = true := by simp
    have hff : ¬ (f : Int) < (f : Int) := by omega
    go_wp2_with fail
    go_quiet (first | (go_at_call 23; exact Calls.quiet_of (slen_n d od _ _ (by exact HO.out.sy.below (below_drewN (Below.refl _ _) _)) 0 (by rw [HY.out]; rfl))) | (go_at_call 24; exact Calls.quiet_of (oend_e b s _ _ (by exact H1.out.drewN _) HEN.out)))
    generalize hW5 : World.drewN w1 _ = w5
    have HM5 := Lib.hid (show OM w w5 fp b s from by rw [← hW5]; exact OM.drewN ⟨_, ⟨vb, ob, c, oc, d, od, HO.out, rfl⟩, HWf.out⟩ _)
    clear HO HWf e1 e2 e3 e6 e7 e8 e9 c5 H1 HB H HPT
    clear hW5
    obtain ⟨fp5, hoa5, hw5⟩ := HM5.out
    obtain ⟨vb5, ob5, c5', oc5, d5, od5, hO5, hfp5⟩ := hoa5
    rw [hfp5] at hw5
    have e2 : w5.cell? ⟨b, 2, none⟩ = some (.int .u64 f) := by rw [cell_at hO5.blk, ← HSL0.out]; rfl
    have f7 := free_at hO5.blk 7
    have f9 := free_at hO5.blk 9
    have e7 := cell_at hO5.blk 7
    have e9 := cell_at hO5.blk 9
    have e79 := cell_at (set_at hO5.blk 7 (.bool true)) 9
    have e72 : (w5.setCell ⟨b, 7, none⟩ (.bool true)).cell? ⟨b, 2, none⟩ = some (.int .u64 f) := by rw [cell_at (set_at hO5.blk 7 (.bool true)), ← HSL0.out]; rfl
    simp only [List.getElem?_toArray, List.getElem?_cons_succ, List.getElem?_cons_zero, Array.setIfInBounds] at e7 e9 e79
    have f79 := free_at (set_at hO5.blk 7 (.bool true)) 9
    have HMY := Lib.hid (show OM w ((w5.setCell ⟨b, 7, none⟩ (.bool true)).setCell ⟨b, 9, none⟩ (.bool false)) fp b { s with es := true, el := false } from om_set hO5 hw5 (Upd.refl _ _) (((Upd.refl (fun j => j = b) w5).setCell ⟨b, 7, none⟩ (.inl rfl) _).setCell ⟨b, 9, none⟩ (.inl rfl) _) (set_at (set_at hO5.blk 7 _) 9 _) hO5.row (.inl rfl) rfl rfl
            ⟨hO5.ok.len, hO5.ok.base, hO5.ok.sent, hO5.ok.nx, hO5.ok.ny, hO5.ok.lx, hO5.ok.ly, hO5.ok.bys⟩)
    have e2x : ((w5.setCell ⟨b, 7, none⟩ (.bool true)).setCell ⟨b, 9, none⟩ (.bool false)).cell? ⟨b, 2, none⟩ = some (.int .u64 f) := by rw [cell_at (set_at (set_at hO5.blk 7 (.bool true)) 9 (.bool false)), ← HSL0.out]; rfl
    clear hO5 hw5 hfp5 HM5
    go_wp2_with fail
    (try simp only [Exit.inBlock, Exit.then])
    refine bodyPost_ret (results_tmp4 rfl _ _ _) rfl ?_
    have hm9 := HMY.out
    rw [HSF.out] at hm9
    exact ⟨rfl, hm9⟩
end Go.Proofs.Ytkebjfaphmamjaa
