/- DERIVED. Walks of outbuf: part where something is lost; Finish; Whole. -/
import Derived.Test.YtkebjfaphmamjaaOutAck
namespace Go.Proofs.Ytkebjfaphmamjaa
open Go.RowKit

set_option maxRecDepth 100000 in
set_option maxHeartbeats 1000000 in
theorem opart_cons (b : Nat) (s : OS) (fp : Nat → Prop) (limit : Nat) (r : Rg) (rest : List Rg) (w : World) (h : OAt w b s fp) (hys : s.ys = r :: rest) :
    Calls Try.prog 22 #[.pointer (some ⟨b, 0, none⟩), .int .u64 limit] w fun e w' => e = .returned (.tuple #[.int .u64 r.1, .int .u64 r.2]) ∧ Below w.heap.size w w' := by
  obtain ⟨vb, ob, c, oc, d, od, hO, hfp⟩ := h
  have c5 : w.cell? ⟨b, 5, none⟩ = some (.pointer (some ⟨d, 0, none⟩)) := (cell_at hO.blk 5).trans rfl
  have HO := Lib.hid hO
  have HY := Lib.hid hys
  clear hO hfp hys
  go_enter Try.func22, Try.ntmps22
  go_wp2_with fail
  refine (all_any d many od s.ys _ (by exact HO.out.sy) (by have := HO.out.ok.ly; omega)).mono ?_
  rw [HY.out]
  rintro e w1 ⟨v, og, rfl, hs, hnew, hb⟩
  obtain ⟨oa, cap, rfl, hc1, hc2⟩ := hs.shape
  have HB := Lib.hid hb
  obtain ⟨g, hg, rfl, hgl, q0, q1⟩ := hs.atS (i := 0) (r := r) rfl
  rw [Nat.zero_mul] at q0 q1
  have hln : 0 < (r :: rest).length := by simp
  clear hs hb hnew c5 hg
  generalize (r :: rest).length = ln at *
  have HB1 := Lib.hid (HB.out.alloc HB.out.size (.cells #[.int .u64 r.1, .int .u64 r.2] 59))
  go_wp2_with fail
  go_loopw [14] (fun i wr => i = .int .i64 0 ∧ wr = w1) (fun _ _ => 0)
  case atStart => exact ⟨rfl, rfl⟩
  case round =>
    obtain ⟨rfl, rfl⟩ := hrel
    go_wp2_with fail
    go_quiet (fail)
    go_wp2_with fail
    go_ret2
    exact ⟨rfl, below_drewN HB1.out _⟩
set_option maxRecDepth 100000 in
set_option maxHeartbeats 1000000 in
theorem ofinish_any (b : Nat) (s : OS) (fp : Nat → Prop) (w : World) (h : OAt w b s fp) :
    Calls Try.prog 17 #[.pointer (some ⟨b, 0, none⟩)] w fun e w' => e = .returned (.bool (!s.fi)) ∧ OM w w' fp b { s with fi := true } := by
  obtain ⟨vb, ob, c, oc, d, od, hO, hfp⟩ := h
  have c6 : w.cell? ⟨b, 6, none⟩ = some (.bool s.fi) := (cell_at hO.blk 6).trans rfl
  have f6 := free_at hO.blk 6
  have HM := Lib.hid (show OM w (w.setCell ⟨b, 6, none⟩ (.bool true)) fp b { s with fi := true } from by
    rw [hfp]
    exact om_set (s' := { s with fi := true }) hO (Went.refl _ _) (Upd.refl _ _) ((Upd.refl (fun j => j = b) w).setCell ⟨b, 6, none⟩ (.inl rfl) _) (set_at hO.blk 6 _) hO.row (.inl rfl) rfl rfl ⟨hO.ok.len, hO.ok.base, hO.ok.sent, hO.ok.nx, hO.ok.ny, hO.ok.lx, hO.ok.ly, hO.ok.bys⟩)
  clear hO hfp
  generalize s.fi = fi at c6 ⊢
  cases fi
  all_goals go_enter Try.func17, Try.ntmps17
  all_goals go_wp2_with fail
  all_goals go_ret
  all_goals exact ⟨rfl, HM.out⟩
set_option maxRecDepth 100000 in
set_option maxHeartbeats 1000000 in
theorem owhole_q (b : Nat) (s : OS) (fp : Nat → Prop) (w : World) (h : OAt w b s fp) :
    Calls Try.prog 19 #[.pointer (some ⟨b, 0, none⟩)] w fun e w' => e = .returned (.bool (s.fi && s.ea && decide (s.base = s.B.length))) ∧ ∃ n, w' = w.drewN n := by
  obtain ⟨c1, c2, _, c6, _, c8, _⟩ := h.cells
  generalize s.fi = fi at *
  generalize s.ea = ea at *
  generalize s.base = base at *
  generalize s.B.length = len at *
  clear h
  cases fi
  all_goals cases ea
  all_goals by_cases hb : base = len
  all_goals try subst hb
  all_goals go_enter Try.func19, Try.ntmps19
  all_goals go_wp2_with fail
  all_goals try go_quiet (fail)
  all_goals try go_wp2_with fail
  all_goals go_ret
  all_goals first
    | exact ⟨by simp [eqN], _, rfl⟩
    | exact ⟨rfl, 0, rfl⟩
    | exact ⟨by simp, 0, rfl⟩
    | exact ⟨by simp; omega, 0, rfl⟩
    | exact ⟨by simp, _, rfl⟩
    | exact ⟨by simp; omega, _, rfl⟩
    | exact ⟨by simp; rw [eqN], _, rfl⟩
end Go.Proofs.Ytkebjfaphmamjaa
