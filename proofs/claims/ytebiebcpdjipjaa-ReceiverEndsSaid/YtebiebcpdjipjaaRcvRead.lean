/- DERIVED. Walk of receiver's Read. -/
import Derived.Test.YtebiebcpdjipjaaRcvOn
import Derived.Test.YtebiebcpdjipjaaPart
namespace Go.Proofs.Ytebiebcpdjipjaa
open Go.RowKit

def RS.tk (s : RS) (n : Nat) : RS := { s with ib := s.ib.take n, st := if (s.ib.take n).last then 4 else s.st }
set_option maxRecDepth 100000 in
set_option maxHeartbeats 1000000 in
theorem rread_reset (r : Nat) (s : RS) (fp : Nat → Prop) (m : Int) (w : World) (h : RAt w r s fp) (hst : s.st = 5) :
    Calls Try.prog 12 #[.pointer (some ⟨r, 0, none⟩), .int .i64 m] w fun e w' => e = .returned (.tuple #[.slice none 0 0, .bool false, .int .u64 s.code, .int .i64 29]) ∧ RM w w' fp r { s with st := 6 } := by
  obtain ⟨b, hgo⟩ := h.go
  obtain ⟨c2, c4, c5, c6, hf⟩ := hgo.cells
  obtain ⟨d2, d4, d5, d6, hf2⟩ := (hgo.setSt 6 (by omega) (by omega)).cells
  have hf := hf 2
  have HG := Lib.hid (hgo.setSt 6 (by omega) (by omega))
  replace c2 : w.cell? ⟨r, 2, none⟩ = some (.int .i64 5) := by rw [hst] at c2; exact c2
  replace d5 : (w.setCell ⟨r, 2, none⟩ (.int .i64 6)).cell? ⟨r, 5, none⟩ = some (.int .u64 s.code) := d5
  generalize s.code = cd at *
  clear h hgo hst d2 d4 d6 c4 c6 hf2 c5
  go_enter Try.func12, Try.ntmps12
  go_wp2_with fail
  go_quiet (fail)
  go_wp2_with fail
  (try simp only [Exit.inBlock, Exit.then])
  refine bodyPost_ret (results_tmp4 rfl _ _ _) rfl ?_
  exact ⟨rfl, HG.out.rm.later (below_drewN (Below.refl _ _) _)⟩
set_option maxRecDepth 100000 in
set_option maxHeartbeats 1000000 in
theorem rread_over (r : Nat) (s : RS) (fp : Nat → Prop) (m : Int) (w : World) (h : RAt w r s fp) (hst : s.st = 4 ∨ s.st = 6) :
    Calls Try.prog 12 #[.pointer (some ⟨r, 0, none⟩), .int .i64 m] w fun e w' => e = .returned (.tuple #[.slice none 0 0, .bool false, .int .u64 0, .int .i64 24]) ∧ ∃ n, w' = w.drewN n := by
  obtain ⟨b, hgo⟩ := h.go
  obtain ⟨c2, c4, c5, c6, hf⟩ := hgo.cells
  clear h hgo hf c4 c5 c6
  generalize s.st = st at *
  rcases hst with rfl | rfl
  all_goals
    go_enter Try.func12, Try.ntmps12
    go_wp2_with fail
    (try simp only [Exit.inBlock, Exit.then])
    refine bodyPost_ret (results_tmp4 rfl _ _ _) rfl ?_
    exact ⟨rfl, 0, rfl⟩
set_option maxRecDepth 100000 in
set_option maxHeartbeats 1000000 in
theorem rread_any (r : Nat) (s : RS) (fp : Nat → Prop) (m : Int) (w : World) (h : RAt w r s fp) (hst : s.st ≤ 3) (hm : -9223372036854775808 ≤ m) (hm2 : m ≤ 9223372036854775807) {n : Nat} (hn : s.ib.num m = n) :
    Calls Try.prog 12 #[.pointer (some ⟨r, 0, none⟩), .int .i64 m] w fun e w' => ∃ v' fp', e = .returned (.tuple #[v', .bool (s.ib.take n).last, .int .u64 0, .int .i64 (if n = 0 ∧ (s.ib.take n).last = false then 26 else 0)]) ∧
      RAt w' r (s.tk n) fp' ∧ Went fp fp' w w' ∧ VwA encB (fun k => k < w.heap.size ∨ fp' k) w' v' (s.ib.out n) := by
  obtain ⟨b, hgo⟩ := h.go
  obtain ⟨c2, c4, c5, c6, hf⟩ := hgo.cells
  have hok := h.ok.st
  have HG := Lib.hid hgo
  generalize hs : s.st = st at *
  go_enter Try.func12, Try.ntmps12
  obtain ⟨fb, hb1, hb2⟩ := HG.out
  have n5 : ((st : Int) == 5) = false := by simp; omega
  have n4 : ((st : Int) == 4) = false := by simp; omega
  have n6 : ((st : Int) == 6) = false := by simp; omega
  have hbuf := hb1.buf
  have HBF := Lib.hid hbuf
  have HB1 := Lib.hid hb1
  clear h hgo hf c5 c6 hbuf hb1
  go_wp2_with fail
  refine (btake_any b s.ib fb m _ (by exact HBF.out) hm hm2 hn).mono ?_
  rintro e w1 ⟨v, fb', rfl, hi, hw, hv⟩
  have hfl := out_len (s := s.ib) (n := n) (by rw [← hn]; exact IB.num_le _ _)
  obtain ⟨oa, cap, rfl, hc1, hc2, hc3⟩ := hv
  rw [hfl] at hc1 ⊢
  have HA := Lib.hid (HB1.out.added hi hw)
  have HN := Lib.hid (show Went fp (fun j => j = r ∨ fb' j) w w1 from hb2.trans (g := fun j => j = r ∨ fb j) ⟨hw.upd.mono (fun j _ x => .inr x), by
    rintro k (q | q)
    · exact .inl (.inl q)
    · exact (hw.new k q).imp .inr id⟩)
  have HL := Lib.hid (show VwA encB (fun k => k < w.heap.size ∨ k = r ∨ fb' k) w1 (.slice oa n cap) (s.ib.out n) from ⟨oa, cap, by rw [hfl], by rw [hfl]; exact hc1, hc2, by
    rcases hc3 with x | ⟨b9, off, e1, e2, e3, e4⟩
    · exact .inl x
    · exact .inr ⟨b9, off, e1, e2, fun q => by
        have := heap_lt HB1.out.blk
        rcases q with q | q | q
        · exact e3 (.inl q)
        · exact e3 (.inl (by omega))
        · exact e3 (.inr q), e4⟩⟩)
  have HRW := Lib.hid (show r < w.heap.size from heap_lt HB1.out.blk)
  generalize hl : (s.ib.take n).last = la at *
  have q2 := free_at HA.out.blk 2
  have e2 : w1.cell? ⟨r, 2, none⟩ = some (.int .i64 s.st) := (cell_at HA.out.blk 2).trans rfl
  cases la
  · have e : s.tk n = { s with ib := s.ib.take n } := by unfold RS.tk; rw [hl]; rfl
    have HF := Lib.hid (show RAt w1 r (s.tk n) (fun j => j = r ∨ fb' j) from by rw [e]; exact ⟨b, fb', HA.out, rfl⟩)
    clear e c4 hc3
    clear q2 e2
    by_cases n0 : n = 0
    · subst n0
      go_wp2_with fail
      (try simp only [Exit.inBlock, Exit.then])
      refine bodyPost_ret (results_tmp4 rfl _ _ _) rfl ?_
      have ho : s.ib.out 0 = [] := List.eq_nil_of_length_eq_zero hfl
      rw [ho]
      exact ⟨_, rfl, _, HF.out, HN.out, ⟨none, 0, rfl, by simp, by omega, .inl rfl⟩⟩
    · have n1 : ((n : Int) == 0) = false := by simp; omega
      have hif : ¬ (n = 0 ∧ (s.ib.take n).last = false) := fun x => n0 x.1
      go_wp2_with fail
      (try simp only [Exit.inBlock, Exit.then])
      refine bodyPost_ret (results_tmp4 rfl _ _ _) rfl ?_
      first | exact ⟨_, rfl, _, HF.out, HN.out, HL.out⟩ | exact ⟨_, _, rfl, HF.out, HN.out, HL.out⟩
  · have e : s.tk n = { s with ib := s.ib.take n, st := 4 } := by unfold RS.tk; rw [hl]; rfl
    have HF := Lib.hid (show RAt (w1.setCell ⟨r, 2, none⟩ (.int .i64 4)) r (s.tk n) (fun j => j = r ∨ fb' j) from by rw [e]; exact ⟨b, fb', HA.out.setSt 4 (by omega) (by omega), rfl⟩)
    have HN2 := Lib.hid (show Went fp (fun j => j = r ∨ fb' j) w (w1.setCell ⟨r, 2, none⟩ (.int .i64 4)) from HN.out.trans ⟨(Upd.refl _ w1).setCell ⟨r, 2, none⟩ (.inl (.inl rfl)) _, fun k q => .inl q⟩)
    have HL2 := Lib.hid (HL.out.upd ((Upd.refl (fun j => j = r) w1).setCell ⟨r, 2, none⟩ (.inl rfl) (.int .i64 4)) (fun k hk => hk ▸ .inr (.inl rfl)))
    clear e c4 hc3
    by_cases n0 : n = 0
    · subst n0
      go_wp2_with fail
      (try simp only [Exit.inBlock, Exit.then])
      refine bodyPost_ret (results_tmp4 rfl _ _ _) rfl ?_
      exact ⟨_, rfl, _, HF.out, HN2.out, HL2.out⟩
    · have n1 : ((n : Int) == 0) = false := by simp; omega
      go_wp2_with fail
      (try simp only [Exit.inBlock, Exit.then])
      refine bodyPost_ret (results_tmp4 rfl _ _ _) rfl ?_
      exact ⟨_, rfl, _, HF.out, HN2.out, HL2.out⟩
end Go.Proofs.Ytebiebcpdjipjaa
