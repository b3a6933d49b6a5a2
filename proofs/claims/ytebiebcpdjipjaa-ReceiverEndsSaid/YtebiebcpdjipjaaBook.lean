/- DERIVED. Walks of narthexbook's small functions. -/
import Derived.Test.YtebiebcpdjipjaaRows
import Derived.Test.YtebiebcpdjipjaaBase
namespace Go.Proofs.Ytebiebcpdjipjaa
open Go.RowKit

def withinS (n lo hi : Int) : Int := if lo ≤ n ∧ n ≤ hi then n else lo + n % (hi - lo + 1)
theorem withinS_bd (n lo hi : Int) (h : lo ≤ hi) : lo ≤ withinS n lo hi ∧ withinS n lo hi ≤ hi := by
  unfold withinS
  split
  · assumption
  · have := Int.emod_nonneg n (b := hi - lo + 1) (by omega)
    have := Int.emod_lt_of_pos n (b := hi - lo + 1) (by omega)
    omega
theorem tmod_fix (n m : Int) (hm : 0 < m) : (if n.tmod m < 0 then n.tmod m + m else n.tmod m) = n % m := by
  have h1 := Int.emod_nonneg n (b := m) (by omega)
  have h2 := Int.emod_lt_of_pos n (b := m) hm
  rcases Int.le_total 0 n with hn | hn
  · rw [Int.tmod_eq_emod_of_nonneg hn]
    split <;> omega
  · have h3 := Int.tmod_eq_emod (a := n) (b := m)
    have h4 := Int.emod_eq_zero_of_dvd (a := m) (b := n)
    have h5 : ((m.natAbs : Nat) : Int) = m := by omega
    split at h3
    · rename_i hd
      simp only [Int.sub_zero, Int.cast_ofNat_Int] at h3
      rcases hd with hd | hd
      · obtain rfl : n = 0 := by omega
        simp
      · have := h4 hd
        split <;> omega
    · split <;> omega
theorem tmod_bd (n m : Int) (hm : 0 < m) : -m ≤ n.tmod m ∧ n.tmod m < m := by
  have h := tmod_fix n m hm
  have h1 := Int.emod_nonneg n (b := m) (by omega)
  have h2 := Int.emod_lt_of_pos n (b := m) hm
  split at h <;> omega


set_option maxHeartbeats 1000000 in
theorem within_any (n lo hi : Int) (w : World) (h : lo ≤ hi) (h1 : -1099511627776 ≤ lo) (h2 : hi ≤ 1099511627776) (hn : -9223372036854775808 ≤ n) (hn2 : n ≤ 9223372036854775807) :
    Calls Try.prog 9 #[.int .i64 n, .int .i64 lo, .int .i64 hi] w fun e w' =>
      e = .returned (.int .i64 (withinS n lo hi)) ∧ w = w' := by
  obtain ⟨b1, b2⟩ := tmod_bd n (hi - lo + 1) (by omega)
  have hfix := Lib.hid (tmod_fix n (hi - lo + 1) (by omega))
  by_cases hc : lo ≤ n
  all_goals by_cases hd : n ≤ hi
  all_goals
    go_enter Try.func9, Try.ntmps9
    go_wp2
  all_goals (first | (exfalso; omega) | skip)
  all_goals go_ret
  all_goals refine ⟨ret_i64 ?_, rfl⟩
  all_goals have hfx := hfix.out
  all_goals unfold withinS
  all_goals first | (rw [if_pos ⟨hc, hd⟩]; done) | (rw [if_neg (by omega)]; split at hfx <;> omega)

end Go.Proofs.Ytebiebcpdjipjaa
