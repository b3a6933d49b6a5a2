/- DERIVED. Numbers of a kind: the evaluator's wrapping is the model's. -/
import Derived.Test.YtijnjnncgkhabaaEvS
import Derived.WalkKit
namespace Go.Proofs.Ytijnjnncgkhabaa
namespace Ev

theorem low_eq (m : Nat) (hm : 0 < m) (x : Int) : (low m x : Int) = x % (m : Int) := by
  cases x with
  | ofNat a => rfl
  | negSucc a =>
    have e := Int.negSucc_emod a (b := (m : Int)) (by omega)
    have h := Nat.mod_lt a hm
    have e2 : (((a % m : Nat)) : Int) = (a : Int) % (m : Int) := rfl
    show ((m - 1 - a % m : Nat) : Int) = Int.negSucc a % (m : Int)
    rw [e]
    omega
theorem low_lt (m : Nat) (hm : 0 < m) (x : Int) : low m x < m := by
  have h1 := low_eq m hm x
  have h2 := Int.emod_lt_of_pos x (show (0 : Int) < (m : Int) by omega)
  omega
theorem wrapS_eq (m a : Nat) (h : a < m) (hm : m % 2 = 0) : wrapS m a = if (a : Int) ≥ ((m / 2 : Nat) : Int) then (a : Int) - (m : Int) else (a : Int) := by
  unfold wrapS
  cases hb : Nat.ble (Nat.div m 2) a
  · simp only
    have : ¬ (m / 2 ≤ a) := fun h' => by have h3 := Nat.ble_eq_true_of_le h'; rw [show Nat.ble (m / 2) a = Nat.ble (m.div 2) a from rfl, hb] at h3; cases h3
    rw [if_neg (by omega)]
    rfl
  · simp only
    have h2 : m / 2 ≤ a := Nat.le_of_ble_eq_true hb
    rw [if_pos (by omega)]
    show Int.negSucc (m - 1 - a) = _
    rw [Int.negSucc_eq]
    omega
theorem wrap_i (k : IntKind) (x : Int) : wrapF k x = k.wrap x := by
  cases k <;> simp only [wrapF, sgn, md, IntKind.wrap, IntKind.bits, IntKind.signed, Bool.true_and, Bool.false_and, Bool.false_eq_true, if_false]
  · rw [wrapS_eq 256 _ (low_lt 256 (by omega) x) (by omega), low_eq 256 (by omega)]; simp
  · rw [wrapS_eq 65536 _ (low_lt 65536 (by omega) x) (by omega), low_eq 65536 (by omega)]; simp
  · rw [wrapS_eq 4294967296 _ (low_lt 4294967296 (by omega) x) (by omega), low_eq 4294967296 (by omega)]; simp
  · rw [wrapS_eq 18446744073709551616 _ (low_lt 18446744073709551616 (by omega) x) (by omega), low_eq 18446744073709551616 (by omega)]; simp
  · exact low_eq 256 (by omega) x
  · exact low_eq 65536 (by omega) x
  · exact low_eq 4294967296 (by omega) x
  · exact low_eq 18446744073709551616 (by omega) x
theorem ieq_ok (x y : Int) : ieq x y = decide (x = y) := by
  cases x <;> cases y <;> simp only [ieq]
  · rename_i a b
    rw [show Nat.beq a b = decide (a = b) by rw [Bool.eq_iff_iff]; simp]
    simp
    omega
  · simp
  · simp
  · rename_i a b
    rw [show Nat.beq a b = decide (a = b) by rw [Bool.eq_iff_iff]; simp]
    simp
theorem ble_dec (a b : Nat) : Nat.ble a b = decide (a ≤ b) := by rw [Bool.eq_iff_iff]; simp
theorem ile_ok (x y : Int) : ile x y = decide (x ≤ y) := by
  cases x <;> cases y <;> simp only [ile, ble_dec]
  · simp
  · rename_i a b
    rw [Bool.eq_iff_iff]
    simp
    omega
  · rename_i a b
    rw [Bool.eq_iff_iff]
    simp
    omega
  · rename_i a b
    rw [Bool.eq_iff_iff]
    simp
    omega
theorem keq_ok {a b : IntKind} (h : keq a b = true) : a = b := by cases a <;> cases b <;> first | rfl | cases h
theorem bts_ok (k : IntKind) : bts k = k.bits := by cases k <;> rfl
theorem minN_ok (a b : Nat) : minN a b = min a b := by
  unfold minN
  rw [ble_dec]
  by_cases h : a ≤ b
  · simp [h]
  · simp [h]; omega
theorem md_ok (k : IntKind) : md k = 2 ^ k.bits := by cases k <;> rfl
end Ev
end Go.Proofs.Ytijnjnncgkhabaa
