/- DERIVED. Walk of narthexlaw15's known. -/
import Derived.Test.YtkebjfaphmamjaaOutAck
import Derived.Lib.SlBytesConst
namespace Go.Proofs.Ytkebjfaphmamjaa
open Go.RowKit

/-- What the buffer's blocks are from a call's beginning on: all new. -/
def OMine (W w : World) (b : Nat) (s : OS) : Prop := ∃ fp, OAt w b s fp ∧ (∀ k, fp k → W.heap.size ≤ k) ∧ Below W.heap.size W w
theorem OMine.later {W w w' : World} {b : Nat} {s : OS} (h : OMine W w b s) (hb : Below w.heap.size w w') : OMine W w' b s := by
  obtain ⟨fp, h1, h2, h3⟩ := h
  exact ⟨fp, h1.below hb, h2, below_call h3 h3.size hb⟩
theorem OMine.alloc {W w : World} {b : Nat} {s : OS} (h : OMine W w b s) (o : Obj) : OMine W (w.alloc o) b s := h.later ((Below.refl _ _).alloc (Nat.le_refl _) _)
theorem OMine.drewN {W w : World} {b : Nat} {s : OS} (h : OMine W w b s) (n : Nat) : OMine W (w.drewN n) b s := h.later (below_drewN (Below.refl _ _) n)
theorem OMine.below {W w : World} {b : Nat} {s : OS} (h : OMine W w b s) : Below W.heap.size W w := by
  obtain ⟨_, _, _, h3⟩ := h
  exact h3
theorem om_mine {W w w' : World} {b : Nat} {s' : OS} {fp : Nat → Prop} (hn : ∀ k, fp k → W.heap.size ≤ k) (hb : Below W.heap.size W w) (m : OM w w' fp b s') : OMine W w' b s' := by
  obtain ⟨fp', h1, h2⟩ := m
  have hs := hb.size
  exact ⟨fp', h1, fun k hk => by
    rcases h2.new k hk with q | q
    · exact hn k q
    · omega, Upd.belowOf hb h2.upd (fun k hk q => by have := hn k q; omega)⟩
theorem lit_vw {w : World} {g n c : Nat} {cs : Array Value} {t : TypeId} {z : Nat × Nat} {xs : List Nat} (h : w.heap[g]? = some (.cells cs t z)) (hl : cs.toList = flat encB xs) (hn : n = xs.length) (hc : n ≤ c) (hc2 : c ≤ 9223372036854775807) :
    Vw encB w w.heap.size (.slice (some ⟨g, 0, none⟩) n c) xs := (lit_vwa (fp := fun _ => False) h hl (fun q => q) hn hc hc2).vw

set_option maxRecDepth 100000 in
set_option maxHeartbeats 1000000 in
theorem known_any (w : World) : Calls Try.prog 14 #[] w fun e w' => e = .returned (.bool true) ∧ Below w.heap.size w w' := by
  have hcs := fun (w : World) (C : Array Value) (n c : Nat) => Lib.run_convert_bytes_const (P := Try.prog) w 28 5 C n c Try.underlying28 Try.underlying5
  obtain ⟨s1, e1⟩ : ∃ s1, OS.zero.write [97, 98, 99] = s1 := ⟨_, rfl⟩
  have R1 := Lib.hid (show s1.B = [97, 98, 99] ∧ s1.sent = 0 ∧ s1.base = 0 ∧ s1.ys = [] ∧ s1.ende = false ∧ (s1.sends 2).room = 2045 by rw [← e1]; decide)
  have E1 := Lib.hid e1
  clear e1
  go_enter Try.func14, Try.ntmps14
  go_wp2_with fail
  refine (onew_any _).mono ?_
  rintro e w1 ⟨b, fp1, rfl, hi, hn, hb⟩
  have H1 := Lib.hid (show OMine w w1 b OS.zero from ⟨fp1, hi, hn, hb⟩)
  clear hi hn hb
  go_wp2_with fail
  obtain ⟨fp, hO, hn, hb⟩ := H1.out.alloc (.cells #[.int .u8 97, .int .u8 98, .int .u8 99] 5 (3, 4))
  refine (owrite_any b OS.zero fp _ [97, 98, 99] _ (by exact hO) (by exact lit_vw (alloc_at _ _) rfl rfl (by omega) (by omega)) (Nat.le_refl _) (by unfold Bys; decide) (by decide) (by decide) (by decide)).mono ?_
  rw [E1.out, show ((min ([97, 98, 99] : List Nat).length OS.zero.room : Nat) : Int) = 3 from by decide]
  rintro e w2 ⟨rfl, hm⟩
  have H2 := Lib.hid (om_mine hn hb hm)
  clear hO hn hb hm H1
  go_wp2_with fail
  obtain ⟨fp, hO, hn, hb⟩ := H2.out
  refine (onext_yes b s1 fp 2 9 2 _ (by exact hO) (by omega) (by rw [R1.out.1]; decide) R1.out.2.2.2.1 (by rw [R1.out.2.2.1, R1.out.2.1]; omega) (by rw [R1.out.2.1]; omega) (by rw [R1.out.1, R1.out.2.1]; rfl) R1.out.2.2.2.2.1 (by omega)).mono ?_
  rw [R1.out.2.1, R1.out.1]
  rintro e w3 ⟨v, og, rfl, hm, hv, hg⟩
  have H3 := Lib.hid (om_mine hn hb hm)
  have hs := hv.vw.rds.str (P := Try.prog) (src := 28) (dst := 9) Try.underlying28 Try.underlying5 Try.underlying9
  have hst : (strB (List.take (2 - 0) (List.drop 0 [97, 98, 99]))).toList = [97, 98] := by decide +kernel
  generalize strB (List.take (2 - 0) (List.drop 0 [97, 98, 99])) = str at *
  clear hO hn hb hm hv hg H2
  go_wp2_with fail
  obtain ⟨fp, hO, hn, hb⟩ := H3.out
  refine (osent_q b _ fp _ (by exact hO)).mono ?_
  rintro e w4 ⟨rfl, q, rfl⟩
  have H4 := Lib.hid (H3.out.drewN q)
  clear hO hn hb H3
  generalize w3.drewN q = w4 at *
  clear hs hst
  go_wp2_with fail
  obtain ⟨fp, hO, hn, hb⟩ := H4.out
  refine (olen_q b _ fp _ (by exact hO)).mono ?_
  rw [show (s1.sends 2).B.length = 3 from by show s1.B.length = 3; rw [R1.out.1]; rfl]
  rintro e w5 ⟨rfl, q2, rfl⟩
  have H5 := Lib.hid (H4.out.drewN q2)
  clear hO hn hb H4
  generalize w4.drewN q2 = w5 at *
  go_wp2_with fail
  obtain ⟨fp, hO, hn, hb⟩ := H5.out
  refine (oroom_q b _ fp _ (by exact hO) (by show s1.B.length ≤ s1.base + 2048; rw [R1.out.1, R1.out.2.2.1]; decide)).mono ?_
  rw [R1.out.2.2.2.2.2]
  rintro e w6 ⟨rfl, q3, rfl⟩
  have H6 := Lib.hid (H5.out.drewN q3)
  clear hO hn hb H5
  generalize w5.drewN q3 = w6 at *
  go_wp2_with fail
  go_ret
  exact ⟨rfl, H6.out.below⟩
end Go.Proofs.Ytkebjfaphmamjaa
