/- DERIVED. Walk of narthexlaw17's known. -/
import Derived.Test.YtebiebcpdjipjaaRcvRead
import Derived.Test.YtebiebcpdjipjaaMake
namespace Go.Proofs.Ytebiebcpdjipjaa
open Go.RowKit

set_option maxRecDepth 100000 in
set_option maxHeartbeats 1000000 in
theorem rknown_any (w : World) : Calls Try.prog 14 #[] w fun e w' => e = .returned (.bool true) ∧ Below w.heap.size w w' := by
  obtain ⟨Z, hZ, hZl⟩ := make_bytes 10 (by decide)
  have HZL := Lib.hid hZl
  clear hZl
  replace hZ : ∀ w : World, (Instr.makeSlice 22 (.int .i64 10) (.int .i64 10)).run Try.prog w = .ok (.slice (some ⟨w.heap.size, 0, none⟩) 10 10) (w.alloc (.cells Z 5)) := hZ
  go_enter Try.func14, Try.ntmps14
  go_wp2_with fail
  refine (rnew_any 0 9 _ (by decide) (by decide)).mono ?_
  rintro e w1 ⟨r, rfl, hm⟩
  have H1 := Lib.hid hm
  clear hm
  obtain ⟨fp, hr, hn, hb⟩ := H1.out
  have HR := Lib.hid hr
  have HN := Lib.hid hn
  clear hr hn hb
  go_wp2_with fail
  refine (rlimit_q r (RS.new 0 9) fp _ (by exact HR.out)).mono ?_
  rintro e w2 ⟨rfl, q, rfl⟩
  rw [show (RS.new 0 9).lim = 9 from rfl]
  go_wp2_with fail
  have HR2 := Lib.hid ((HR.out.drewN q).below ((Below.refl _ _).alloc (Nat.le_refl _) (.cells Z 5)))
  have hnf : ¬ fp w1.heap.size := fun x => by have := HR.out.lt.2 _ x; omega
  have hal : ((w1.drewN q).alloc (.cells Z 5)).heap[w1.heap.size]? = some (.cells Z 5 (0, 0)) := alloc_at _ _
  have HV := Lib.hid (lit_vwa (fp := fp) (n := 10) (c := 10) hal HZL.out hnf (by simp) (by omega) (by omega))
  have HBW := Lib.hid (show Below w.heap.size w ((w1.drewN q).alloc (.cells Z 5)) from (below_drewN H1.out.below q).alloc (by have := H1.out.below.size; exact this) _)
  clear hal hnf
  go_wp2_with fail
  refine (ron_any r (RS.new 0 9) fp ⟨8, 0, 0, _, false, 0, 0, 0, 0, 0, .slice none 0 0, 0, 0, 0, 0, 0, 0, 0, 0⟩ _ 10 10 (List.replicate 10 0) _ (by exact HR2.out) (by constructor <;> dsimp only <;> omega) rfl (by exact HV.out) (by unfold Bys; decide) (by simp) (by omega)).mono ?_
  rw [show RS.onErr (RS.new 0 9) ⟨8, 0, 0, .slice (some ⟨w1.heap.size, 0, none⟩) 10 10, false, 0, 0, 0, 0, 0, .slice none 0 0, 0, 0, 0, 0, 0, 0, 0, 0⟩ 10 = 23 from rfl, show RS.on (RS.new 0 9) ⟨8, 0, 0, .slice (some ⟨w1.heap.size, 0, none⟩) 10 10, false, 0, 0, 0, 0, 0, .slice none 0 0, 0, 0, 0, 0, 0, 0, 0, 0⟩ (List.replicate 10 0) = RS.new 0 9 from rfl]
  rintro e w3 ⟨rfl, hm⟩
  have H3 := Lib.hid (rm_mine HN.out HBW.out hm)
  clear hm H1 HR HR2 HV HBW HN
  obtain ⟨fp3, hr, hn, hb⟩ := H3.out
  have HR := Lib.hid hr
  have HN := Lib.hid (And.intro hn hb)
  clear hr hn hb
  go_wp2_with fail
  refine (rread_any r (RS.new 0 9) fp3 5 _ (by exact HR.out) (by decide) (by omega) (by omega) (n := 0) (by rfl)).mono ?_
  rw [show ((RS.new 0 9).ib.take 0).last = false from rfl, if_pos ⟨rfl, rfl⟩, show (RS.new 0 9).tk 0 = RS.new 0 9 from rfl]
  rintro e w4 ⟨v4, fp4, rfl, hr, hw, hv⟩
  have H4 := Lib.hid (rm_mine HN.out.1 HN.out.2 ⟨fp4, hr, hw⟩)
  clear hr hw hv HR H3 HN
  obtain ⟨fp5, hr, hn, hb⟩ := H4.out
  have HR := Lib.hid hr
  have HN := Lib.hid (And.intro hn hb)
  clear hr hn hb
  go_wp2_with fail
  refine (ron_any r (RS.new 0 9) fp5 ⟨1, 0, 0, .slice none 0 0, false, 0, 0, 0, 0, 0, .slice none 0 0, 0, 0, 0, 0, 0, 0, 0, 0⟩ none 0 0 [] _ (by exact HR.out) ⟨by decide, by decide, by decide, by decide, by decide, by decide⟩ rfl ⟨none, 0, rfl, by simp, by omega, .inl rfl⟩ (by unfold Bys; decide) (by simp) (by omega)).mono ?_
  rw [show RS.onErr (RS.new 0 9) ⟨1, 0, 0, .slice none 0 0, false, 0, 0, 0, 0, 0, .slice none 0 0, 0, 0, 0, 0, 0, 0, 0, 0⟩ 0 = 1 from rfl, show RS.on (RS.new 0 9) ⟨1, 0, 0, .slice none 0 0, false, 0, 0, 0, 0, 0, .slice none 0 0, 0, 0, 0, 0, 0, 0, 0, 0⟩ [] = RS.new 0 9 from rfl]
  rintro e w6 ⟨rfl, hm⟩
  have H6 := Lib.hid (rm_mine HN.out.1 HN.out.2 hm)
  clear hm HR H4 HN
  obtain ⟨fp6, hr, hn, hb⟩ := H6.out
  have HR := Lib.hid hr
  clear hr hn hb
  go_wp2_with fail
  refine (rstate_q r (RS.new 0 9) fp6 _ (by exact HR.out)).mono ?_
  rintro e w7 ⟨rfl, q7, rfl⟩
  rw [show (RS.new 0 9).st = 1 from rfl]
  go_wp2_with fail
  go_ret
  exact ⟨rfl, (H6.out.drewN q7).below⟩
end Go.Proofs.Ytebiebcpdjipjaa
