/- DERIVED. narthexkeep's Small. -/
import Derived.Test.YtebiebcpdjipjaaHeld
import Derived.Laws.Bits64b
namespace Go.Proofs.Ytebiebcpdjipjaa
open Go.RowKit

def smallS (n : Nat) : Nat :=
  if n % 5 = 0 then n / 5 % 20 else if n % 5 = 1 then ([63, 64, 16383, 16384, 1073741823, 1073741824, 4611686018427387903, 0].getD (n / 5 % 8) 0) else n % 4611686018427387904
theorem smallS_lt (n : Nat) : smallS n < 4611686018427387904 := by
  unfold smallS
  split
  · omega
  · split
    · have h : n / 5 % 8 < 8 := Nat.mod_lt _ (by omega)
      generalize n / 5 % 8 = j at *
      rcases (by omega : j = 0 ∨ j = 1 ∨ j = 2 ∨ j = 3 ∨ j = 4 ∨ j = 5 ∨ j = 6 ∨ j = 7) with h | h | h | h | h | h | h | h <;> subst h <;> decide
    · exact Nat.mod_lt _ (by omega)
set_option maxRecDepth 100000 in
set_option maxHeartbeats 1000000 in
theorem small_any (n : Nat) (w : World) (hn : n < 18446744073709551616) : Calls Try.prog 11 #[.int .u64 n] w fun e w' => e = .returned (.int .u64 (smallS n)) ∧ Below w.heap.size w w' := by
  obtain ⟨r, hr⟩ : ∃ r : Nat, n % 5 = r := ⟨_, rfl⟩
  have hi : (n : Int).tmod 5 = (r : Int) := by rw [Int.tmod_eq_emod_of_nonneg (by omega)]; omega
  have hr5 : r < 5 := by omega
  obtain ⟨d, hd⟩ : ∃ d : Nat, n / 5 = d := ⟨_, rfl⟩
  have hdi : (n : Int).tdiv 5 = (d : Int) := by rw [Int.tdiv_eq_ediv_of_nonneg (by omega)]; omega
  have hd2 : d < 18446744073709551616 := by omega
  go_enter Try.func11, Try.ntmps11
  by_cases h0 : r = 0
  · have e : smallS n = d % 20 := by unfold smallS; rw [if_pos (by omega), hd]
    have hm : (d : Int).tmod 20 = ((d % 20 : Nat) : Int) := by rw [Int.tmod_eq_emod_of_nonneg (by omega)]; omega
    have hm2 : d % 20 < 20 := Nat.mod_lt _ (by omega)
    rw [e]
    clear e
    generalize d % 20 = m at *
    subst h0
    go_wp2_with fail
    go_ret
    exact ⟨rfl, Below.refl _ _⟩
  · by_cases h1 : r = 1
    · have e : smallS n = [63, 64, 16383, 16384, 1073741823, 1073741824, 4611686018427387903, 0].getD (d % 8) 0 := by unfold smallS; rw [if_neg (by omega), if_pos (by omega), hd]
      have hm : (d : Int).tmod 8 = ((d % 8 : Nat) : Int) := by rw [Int.tmod_eq_emod_of_nonneg (by omega)]; omega
      have hm2 : d % 8 < 8 := Nat.mod_lt _ (by omega)
      rw [e]
      clear e
      generalize d % 8 = m at *
      subst h1
      rcases (by omega : m = 0 ∨ m = 1 ∨ m = 2 ∨ m = 3 ∨ m = 4 ∨ m = 5 ∨ m = 6 ∨ m = 7) with h | h | h | h | h | h | h | h <;> subst h
      all_goals
        go_wp2_with fail
        go_ret
        exact ⟨rfl, (Below.refl _ _).alloc (Nat.le_refl _) _⟩
    · have e : smallS n = n % 4611686018427387904 := by unfold smallS; rw [if_neg (by omega), if_neg (by omega)]
      rw [e]
      have h5 : ¬ ((r : Int) = 0) := by omega
      have h6 : ¬ ((r : Int) = 1) := by omega
      go_wp2_with fail
      go_ret
      refine ⟨?_, Below.refl _ _⟩
      have hb := bits_and_u64_nat n 4611686018427387903 hn (by omega)
      rw [show (4611686018427387903 : Nat) = 2 ^ 62 - 1 from rfl, Nat.and_two_pow_sub_one_eq_mod] at hb
      exact congrArg (fun x => Ending.returned (.int .u64 x)) hb
end Go.Proofs.Ytebiebcpdjipjaa
