/- DERIVED. Walk of narthexkeep's Cut. -/
import Derived.Test.YtebiebcpdjipjaaStr
import Derived.Laws.BytesArg
import Derived.Deep.DeepCutAuto
namespace Go.Proofs.Ytebiebcpdjipjaa
open Go.RowKit
set_option maxHeartbeats 400000 in
theorem kcut_q (oa : Option Addr) (len cap n : Nat) (w : World) (h1 : len ≤ cap) (_h2 : cap ≤ 9223372036854775807) (h3 : n ≤ 9223372036854775807) :
    Calls Try.prog 8 #[.slice oa len cap, .int .i64 n] w fun e w' => e = .returned (.slice oa (min len n) cap) ∧ w' = w := by
  by_cases h : n < len
  · go_enter Try.func8, Try.ntmps8
    go_wp2_with fail
    go_ret
    exact ⟨by rw [Nat.min_eq_right (by omega)]; rfl, rfl⟩
  · go_enter Try.func8, Try.ntmps8
    go_wp2_with fail
    go_ret
    exact ⟨by rw [Nat.min_eq_left (by omega)]; rfl, rfl⟩
end Go.Proofs.Ytebiebcpdjipjaa
