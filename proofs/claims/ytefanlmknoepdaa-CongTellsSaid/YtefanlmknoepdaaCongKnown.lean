/- DERIVED. Walk of narthexlaw13's known. -/
import Derived.Test.YtefanlmknoepdaaCong
namespace Go.Proofs.Ytefanlmknoepdaa
open Go.RowKit

set_option maxHeartbeats 1000000 in
theorem known_any (w : World) : Calls Try.prog 13 #[] w fun e w' => e = .returned (.bool true) ∧ Below w.heap.size w w' := by
  go_enter Try.func13, Try.ntmps13
  go_wp2_with fail
  refine (new_any _).mono ?_
  rintro e w1 ⟨rfl, hw1⟩
  have hW : Win 36 w1 w.heap.size 5120 1073741824 (-1) := by subst hw1; exact alloc_at _ _
  have hB : Below w.heap.size w w1 := by subst hw1; exact (Below.refl _ _).alloc (Nat.le_refl _) _
  have HB := Lib.hid hB
  clear hw1 hB
  generalize hbs : w.heap.size = b at *
  have HS := Lib.hid hbs
  clear hbs
  have m1 : mayB 5120 (-1) 5 = false := by decide
  go_wp2_with (first
    | (go_at_call 10; refine (size_q _ _ _ _ _ (by exact hW)).mono ?_; rintro e w' ⟨rfl, n, rfl⟩)
    | (go_at_call 12; refine (slow_q _ _ _ _ _ (by exact hW)).mono ?_; rintro e w' ⟨rfl, n, rfl⟩)
    | (go_at_call 16; refine (may_q _ _ _ _ _ _ _ (by exact hW) (by omega) (by omega)).mono ?_; rintro e w' ⟨rfl, n, rfl⟩))
  refine (lost_any _ _ _ _ _ _ _ (by exact hW) (by omega) (by omega)).mono ?_
  simp only [lostS]
  rintro e w2 ⟨rfl, hW2, hU2⟩
  replace HB := Lib.hid (Upd.onto (below_drewN HB.out _) hU2 (Nat.le_of_lt (heap_lt hW)) (by intro k h1 h2; omega))
  clear hU2 hW
  go_wp2_with fail
  simp at hW2
  refine (lost_any _ _ _ _ _ _ _ (by exact hW2) (by omega) (by omega)).mono ?_
  simp only [lostS]
  rintro e w3 ⟨rfl, hW3, hU3⟩
  have HB3 := Lib.hid (Upd.onto HB.out hU3 (Nat.le_of_lt (heap_lt hW2)) (by intro k h1 h2; omega))
  clear hW2 hU3 HB
  simp at hW3
  have m2 : mayB 2560 2060 500 = true := by decide
  have m3 : mayB 2560 2061 500 = false := by decide
  go_wp2_with (first
    | (go_at_call 10; refine (size_q _ _ _ _ _ (by exact hW3)).mono ?_; rintro e w' ⟨rfl, n, rfl⟩)
    | (go_at_call 12; refine (slow_q _ _ _ _ _ (by exact hW3)).mono ?_; rintro e w' ⟨rfl, n, rfl⟩)
    | (go_at_call 16; refine (may_q _ _ _ _ _ _ _ (by exact hW3) (by omega) (by omega)).mono ?_; rintro e w' ⟨rfl, n, rfl⟩))
  go_ret
  exact ⟨rfl, by have h := HS.out; subst h; exact below_drewN HB3.out _⟩
end Go.Proofs.Ytefanlmknoepdaa
