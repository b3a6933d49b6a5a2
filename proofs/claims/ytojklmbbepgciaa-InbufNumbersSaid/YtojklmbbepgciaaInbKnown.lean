/- DERIVED. Walk of narthexlaw14's known. -/
import Derived.Test.YtojklmbbepgciaaStr
import Derived.Lib.SlBytesConst
namespace Go.Proofs.Ytojklmbbepgciaa
open Go.RowKit

theorem lit_vwa {fp : Nat → Prop} {w : World} {g n c : Nat} {cs : Array Value} {t : TypeId} {z : Nat × Nat} {xs : List Nat} (h : w.heap[g]? = some (.cells cs t z)) (hl : cs.toList = flat encB xs) (hf : ¬ fp g) (hn : n = xs.length) (hc : n ≤ c) (hc2 : c ≤ 9223372036854775807) :
    VwA encB fp w (.slice (some ⟨g, 0, none⟩) n c) xs := by
  subst hn
  refine ⟨_, c, rfl, hc, hc2, .inr ⟨g, 0, rfl, heap_lt h, hf, fun j u hu => ?_⟩⟩
  rw [Nat.zero_add, cell_at h]
  rw [← hl] at hu
  simpa using hu
theorem badd_e (b : Nat) (s s' : IB) (fp : Nat → Prop) (off : Nat) (vd : Value) (d : List Nat) (f : Bool) (w : World) (h : IbAt w b s fp) (hd : VwA encB fp w vd d) (hb : Bys d) (hoff : off < 18446744073709551616) {r : Nat} (hr : s.err off d.length f = r) (hs : s.add off d f = s') :
    Calls Try.prog 11 #[.pointer (some ⟨b, 0, none⟩), .int .u64 off, vd, .bool f] w fun e w' => e = .returned (.int .i64 r) ∧ ∃ fp', IbAt w' b s' fp' ∧ Went fp fp' w w' := by
  subst hr hs
  exact badd_any b s fp off vd d f w h hd hb hoff
/-- What the buffer's blocks are from the call's beginning on: all new. -/
structure Mine (W w : World) (b : Nat) (s : IB) (fp : Nat → Prop) : Prop where
  buf : IbAt w b s fp
  new : ∀ k, fp k → W.heap.size ≤ k
  below : Below W.heap.size W w
theorem Mine.later {W w w' : World} {b : Nat} {s : IB} {fp : Nat → Prop} (h : Mine W w b s fp) (hb : Below w.heap.size w w') : Mine W w' b s fp :=
  ⟨h.buf.below hb, h.new, below_call h.below h.below.size hb⟩
theorem Mine.drewN {W w : World} {b : Nat} {s : IB} {fp : Nat → Prop} (h : Mine W w b s fp) (n : Nat) : Mine W (w.drewN n) b s fp := h.later (below_drewN (Below.refl _ _) n)
theorem Mine.alloc {W w : World} {b : Nat} {s : IB} {fp : Nat → Prop} (h : Mine W w b s fp) (o : Obj) : Mine W (w.alloc o) b s fp := h.later ((Below.refl _ _).alloc (Nat.le_refl _) _)
theorem Mine.went {W w w' : World} {b : Nat} {s s' : IB} {fp fp' : Nat → Prop} (h : Mine W w b s fp) (hi : IbAt w' b s' fp') (hw : Went fp fp' w w') : Mine W w' b s' fp' :=
  ⟨hi, fun k hk => by
    rcases hw.new k hk with q | q
    · exact h.new k q
    · have := h.below.size
      omega, Upd.belowOf h.below hw.upd (fun k hk q => by have := h.new k q; omega)⟩
theorem Mine.fresh {W w : World} {b : Nat} {s : IB} {fp : Nat → Prop} (h : Mine W w b s fp) : ¬ fp w.heap.size := fun q => by have := h.buf.lt.2 _ q; omega

set_option maxRecDepth 100000 in
set_option maxHeartbeats 1000000 in
theorem known_any (w : World) : Calls Try.prog 13 #[] w fun e w' => e = .returned (.bool true) ∧ Below w.heap.size w w' := by
  obtain ⟨s1, e1, r1⟩ : ∃ s1, IB.zero.add 2 [99, 100] true = s1 ∧ IB.zero.err 2 2 true = 0 := ⟨_, rfl, by decide⟩
  obtain ⟨s2, e2, r2⟩ : ∃ s2, s1.add 0 [97, 98] false = s2 ∧ s1.err 0 2 false = 0 := ⟨_, rfl, by rw [← e1]; decide⟩
  obtain ⟨s3, e3, r3⟩ : ∃ s3, s2.add 4 [101] false = s3 ∧ s2.err 4 1 false = 30 := ⟨_, rfl, by rw [← e2, ← e1]; decide⟩
  have r4 : s3.num 9 = 4 ∧ s3.out 4 = [97, 98, 99, 100] ∧ (s3.take 4).last = true ∧ (s3.take 4).rd = 4 ∧ (s3.take 4).whole = true := by
    rw [← e3, ← e2, ← e1]
    decide
  have E1 := Lib.hid e1
  have E2 := Lib.hid e2
  have E3 := Lib.hid e3
  have R := Lib.hid (And.intro r1 (And.intro r2 (And.intro r3 r4)))
  clear e1 e2 e3 r1 r2 r3 r4
  have hcs := fun (w : World) (C : Array Value) (n c : Nat) => Lib.run_convert_bytes_const (P := Try.prog) w 22 5 C n c Try.underlying22 Try.underlying5
  go_enter Try.func13, Try.ntmps13
  go_wp2_with fail
  refine (bnew_any _).mono ?_
  rintro e w1 ⟨b, fp1, rfl, hi, hn, hb⟩
  have H1 := Lib.hid (show Mine w w1 b IB.zero fp1 from ⟨hi, hn, hb⟩)
  clear hi hn hb
  go_wp2_with fail
  refine (badd_e b IB.zero s1 fp1 2 _ [99, 100] true _ (by exact (H1.out.alloc _).buf) (by exact lit_vwa (alloc_at _ _) rfl H1.out.fresh rfl (by omega) (by omega)) (by unfold Bys; decide) (by decide) R.out.1 E1.out).mono ?_
  rintro e w2 ⟨rfl, fp2, hi, hw⟩
  have H2 := Lib.hid ((H1.out.alloc _).went hi hw)
  clear hi hw H1
  go_wp2_with fail
  refine (badd_e b s1 s2 fp2 0 _ [97, 98] false _ (by exact (H2.out.alloc _).buf) (by exact lit_vwa (alloc_at _ _) rfl H2.out.fresh rfl (by omega) (by omega)) (by unfold Bys; decide) (by decide) R.out.2.1 E2.out).mono ?_
  rintro e w3 ⟨rfl, fp3, hi, hw⟩
  have H3 := Lib.hid ((H2.out.alloc _).went hi hw)
  clear hi hw H2
  go_wp2_with fail
  refine (badd_e b s2 s3 fp3 4 _ [101] false _ (by exact (H3.out.alloc _).buf) (by exact lit_vwa (alloc_at _ _) rfl H3.out.fresh rfl (by omega) (by omega)) (by unfold Bys; decide) (by decide) R.out.2.2.1 E3.out).mono ?_
  rintro e w4 ⟨rfl, fp4, hi, hw⟩
  have H4 := Lib.hid ((H3.out.alloc _).went hi hw)
  clear hi hw H3
  go_wp2_with fail
  refine (btake_any b s3 fp4 9 _ (by exact H4.out.buf) (by omega) (by omega) R.out.2.2.2.1).mono ?_
  rw [R.out.2.2.2.2.2.1, R.out.2.2.2.2.1]
  rintro e w5 ⟨v5, fp5, rfl, hi, hw, hv⟩
  have H5 := Lib.hid (H4.out.went hi hw)
  have hs := hv.rds.str (P := Try.prog) (src := 22) (dst := 9) Try.underlying22 Try.underlying5 Try.underlying9
  clear hi hw hv H4
  have hst : (strB [97, 98, 99, 100]).toList = [97, 98, 99, 100] := by decide +kernel
  go_wp2_with fail
  refine (bread_q b _ fp5 _ (by exact H5.out.buf)).mono ?_
  rw [R.out.2.2.2.2.2.2.1]
  rintro e w6 ⟨rfl, q, rfl⟩
  have H6 := Lib.hid (H5.out.drewN q)
  clear hs H5
  go_wp2_with fail
  refine (bwhole_any b _ fp5 _ (by exact H6.out.buf)).mono ?_
  rw [R.out.2.2.2.2.2.2.2]
  rintro e w7 ⟨rfl, hb⟩
  have H7 := Lib.hid (H6.out.later hb)
  clear hb H6
  go_wp2_with fail
  go_ret
  exact ⟨rfl, H7.out.below⟩
end Go.Proofs.Ytojklmbbepgciaa
