/- DERIVED. Sets in memory: Len and Copy. -/
import Derived.Test.YtkebjfaphmamjaaSet
import Derived.Deep.RegionHeld3
namespace Go.Proofs.Ytkebjfaphmamjaa
open Go.RowKit

set_option maxHeartbeats 400000 in
theorem slen_q (b : Nat) (most : Int) (og : Option Nat) (xs : List Rg) (w : World) (h : SetAt w b most og xs) :
    Calls Try.prog 23 #[.pointer (some ⟨b, 0, none⟩)] w fun e w' => e = .returned (.int .i64 xs.length) ∧ ∃ n, w' = w.drewN n := by
  obtain ⟨v, hb, hs, hne⟩ := h
  obtain ⟨oa, cap, hv, hcap, hcap2⟩ := hs.shape
  have c1 := cell_at hb 1
  simp at c1
  rw [hv] at c1
  clear hb hs hv
  generalize xs.length = n at *
  go_enter Try.func23, Try.ntmps23
  go_wp2
  go_ret
  exact ⟨rfl, 0, rfl⟩

end Go.Proofs.Ytkebjfaphmamjaa
