/- DERIVED. Plain laws: which numbers are in a list behind an add, a cut; how many. -/
import Derived.Test.YtebiebcpdjipjaaRngLaw3
namespace Go.Proofs.Ytebiebcpdjipjaa
open Go.RowKit

theorem any_addN (n : Nat) : ∀ (rs : List Rg) (x : Rg), x.1 < x.2 → Norm rs → (addN rs x).any (hasP n) = (hasP n x || rs.any (hasP n))
  | [], x, _, _ => by simp [addN]
  | r :: rs, x, hx, hn => by
    obtain ⟨⟨h1, h2⟩, h3⟩ := hn.head
    unfold addN
    split
    · rw [List.any_cons, any_addN n rs x hx hn.tail, List.any_cons]
      cases hasP n r <;> cases hasP n x <;> simp
    · split
      · simp [List.any_cons]
      · rename_i c1 c2
        rw [any_addN n rs _ (by simp only []; omega) hn.tail, List.any_cons]
        have e : hasP n (min x.1 r.1, max x.2 r.2) = (hasP n x || hasP n r) := by
          rw [Bool.eq_iff_iff]
          simp only [hasP, Bool.and_eq_true, decide_eq_true_eq, Bool.or_eq_true]
          omega
        rw [e, Bool.or_assoc]
theorem any_cut1 (n lo hi : Nat) (r : Rg) (_hr : r.1 < r.2) (h : lo < hi) : (cut1 lo hi r).any (hasP n) = (hasP n r && !(hasP n (lo, hi))) := by
  rw [Bool.eq_iff_iff]
  unfold cut1
  repeat' split
  all_goals simp only [List.any_append, List.any_cons, List.any_nil, hasP, Bool.and_eq_true, Bool.or_eq_true, decide_eq_true_eq, Bool.not_eq_true', Bool.and_eq_false_iff, decide_eq_false_iff_not, Bool.or_false, Bool.false_or, Bool.false_eq_true, false_iff, not_and, not_or]
  all_goals first | omega | (intro h1; omega)
theorem any_cut (n lo hi : Nat) (h : lo < hi) : ∀ xs : List Rg, Norm xs → (cutRaw lo hi xs).any (hasP n) = (xs.any (hasP n) && !(hasP n (lo, hi)))
  | [], _ => by simp [cutRaw]
  | r :: xs, hn => by
    have e : cutRaw lo hi (r :: xs) = cut1 lo hi r ++ cutRaw lo hi xs := by simp [cutRaw]
    rw [e, List.any_append, any_cut1 n lo hi r hn.head.1.1 h, any_cut n lo hi h xs hn.tail, List.any_cons]
    cases hasP n r <;> cases xs.any (hasP n) <;> simp
theorem cut_none {lo hi : Nat} (h : hi ≤ lo) (xs : List Rg) : cutRaw lo hi xs = xs := by
  induction xs with
  | nil => simp [cutRaw]
  | cons r xs ih =>
    have e : cutRaw lo hi (r :: xs) = cut1 lo hi r ++ cutRaw lo hi xs := by simp [cutRaw]
    rw [e, ih, cut1, if_pos (.inl h)]
    rfl
theorem trim_all {most : Int} {xs : List Rg} (h : (xs.length : Int) ≤ most) : trimL most xs = xs := by
  unfold trimL
  rw [show xs.length - most.toNat = 0 by omega, List.drop_zero]
end Go.Proofs.Ytebiebcpdjipjaa
