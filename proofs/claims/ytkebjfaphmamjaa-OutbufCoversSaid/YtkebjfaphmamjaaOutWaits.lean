/- DERIVED. Walk of outbuf's Waits. -/
import Derived.Test.YtkebjfaphmamjaaOutLost
namespace Go.Proofs.Ytkebjfaphmamjaa
open Go.RowKit

theorem opart_any (b : Nat) (s : OS) (fp : Nat → Prop) (limit : Nat) (w : World) (h : OAt w b s fp) (hlim : limit < 18446744073709551616) {f t : Nat} (hp : s.part limit = (f, t)) :
    Calls Try.prog 22 #[.pointer (some ⟨b, 0, none⟩), .int .u64 limit] w fun e w' => e = .returned (.tuple #[.int .u64 f, .int .u64 t]) ∧ Below w.heap.size w w' := by
  cases hys : s.ys with
  | nil =>
    unfold OS.part at hp
    rw [hys] at hp
    simp only [Prod.mk.injEq] at hp
    rw [← hp.1]
    exact opart_nil b s fp limit t w h hlim hys hp.2
  | cons r rest =>
    unfold OS.part at hp
    rw [hys] at hp
    simp only at hp
    have := opart_cons b s fp limit r rest w h hys
    rw [hp] at this
    exact this
theorem oend_e (b : Nat) (s : OS) (fp : Nat → Prop) (w : World) (h : OAt w b s fp) {en : Bool} (he : s.ende = en) : Calls Try.prog 24 #[.pointer (some ⟨b, 0, none⟩)] w fun e w' => e = .returned (.bool en) ∧ ∃ n, w' = w.drewN n := by
  rw [← he]
  exact oend_q b s fp w h
/-- Is something to be sent? -/
def OS.waits (s : OS) (limit : Nat) : Bool := decide ((s.part limit).1 < (s.part limit).2) || (decide (s.sent = s.B.length) && s.ende)
set_option maxRecDepth 100000 in
set_option maxHeartbeats 1000000 in
theorem owaits_any (b : Nat) (s : OS) (fp : Nat → Prop) (limit : Nat) (w : World) (h : OAt w b s fp) (hlim : limit < 18446744073709551616) :
    Calls Try.prog 20 #[.pointer (some ⟨b, 0, none⟩), .int .u64 limit] w fun e w' => e = .returned (.bool (s.waits limit)) ∧ Below w.heap.size w w' := by
  obtain ⟨f, t, hp⟩ : ∃ f t, s.part limit = (f, t) := ⟨_, _, rfl⟩
  have H := Lib.hid h
  have HP := Lib.hid hp
  have HW := Lib.hid (show s.waits limit = (decide (f < t) || (decide (s.sent = s.B.length) && s.ende)) by unfold OS.waits; rw [hp])
  have HC := Lib.hid (show ∀ W, Below w.heap.size w W → W.cell? ⟨b, 2, none⟩ = some (.int .u64 s.B.length) ∧ W.cell? ⟨b, 3, none⟩ = some (.int .u64 s.sent) from fun W hb => ⟨(H.out.below hb).cells.2.1, (H.out.below hb).cells.2.2.1⟩)
  rw [HW.out]
  clear h hp HW
  generalize hse : s.sent = sent at *
  generalize hln : s.B.length = len at *
  clear hse hln
  obtain ⟨en, hen⟩ : ∃ en, s.ende = en := ⟨_, rfl⟩
  have HE := Lib.hid hen
  rw [hen]
  clear hen
  go_enter Try.func20, Try.ntmps20
  go_wp2_with fail
  refine (opart_any b s fp limit _ (by exact H.out) hlim HP.out).mono ?_
  rintro e w1 ⟨rfl, hb⟩
  have HB := Lib.hid hb
  have H1 := Lib.hid (H.out.below hb)
  obtain ⟨c2, c3⟩ := HC.out _ hb
  clear hb
  by_cases hft : f < t
  · have hfti : (f : Int) < (t : Int) := by omega
    go_wp2_with fail
    go_quiet (fail)
    go_wp2_with fail
    go_ret
    exact ⟨by simp [hft], below_drewN HB.out _⟩
  · have hfti : ¬ (f : Int) < (t : Int) := by omega
    by_cases hsl : sent = len
    · subst hsl
      go_wp2_with fail
      go_quiet ((go_at_call 24; exact Calls.quiet_of (oend_e b s _ _ (by exact H1.out.drewN _) HE.out)))
      go_wp2_with fail
      go_ret
      exact ⟨by simp [hft], below_drewN HB.out _⟩
    · have hsli : ¬ (sent : Int) = (len : Int) := by omega
      have hslb : ((sent : Int) == (len : Int)) = false := by rw [eqN]; simp [hsl]
      go_wp2_with fail
      go_quiet (fail)
      go_wp2_with fail
      go_ret
      exact ⟨by simp [hft, hsl], below_drewN HB.out _⟩
end Go.Proofs.Ytkebjfaphmamjaa
