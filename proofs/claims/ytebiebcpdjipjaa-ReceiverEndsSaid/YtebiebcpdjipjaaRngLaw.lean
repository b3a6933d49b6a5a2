/- DERIVED. Plain laws of lists of ranges: the program's answers are the document's. -/
import Derived.Test.YtebiebcpdjipjaaPl
namespace Go.Proofs.Ytebiebcpdjipjaa
open Go.RowKit

theorem from_ge (xs : List Rg) : ∀ f : Nat, f ≤ xs.foldl fromR f := by
  induction xs with
  | nil => intro f; exact Nat.le_refl _
  | cons r xs ih =>
    intro f
    refine Nat.le_trans ?_ (ih (fromR f r))
    unfold fromR
    split <;> omega
theorem from_above (xs : List Rg) (f : Nat) (h : ∀ r ∈ xs, f < r.1) : xs.foldl fromR f = f := by
  induction xs with
  | nil => rfl
  | cons r xs ih =>
    have h1 := h r (List.mem_cons_self ..)
    simp only [List.foldl_cons]
    rw [show fromR f r = f by rw [fromR, if_neg (by omega)]]
    exact ih (fun x hx => h x (List.mem_cons_of_mem _ hx))
theorem end_above (xs : List Rg) (f e : Nat) (h : ∀ r ∈ xs, e ≤ r.1) : xs.foldl (endR f) e = e := by
  induction xs with
  | nil => rfl
  | cons r xs ih =>
    have h1 := h r (List.mem_cons_self ..)
    simp only [List.foldl_cons]
    rw [show endR f e r = e by unfold endR; split <;> omega]
    exact ih (fun x hx => h x (List.mem_cons_of_mem _ hx))
theorem Norm.tail {r : Rg} {xs : List Rg} (h : Norm (r :: xs)) : Norm xs := ⟨fun x hx => h.1 x (List.mem_cons_of_mem _ hx), (List.pairwise_cons.1 h.2).2⟩
theorem Norm.head {r : Rg} {xs : List Rg} (h : Norm (r :: xs)) : (r.1 < r.2 ∧ r.2 ≤ 4611686018427387904) ∧ ∀ x ∈ xs, r.2 < x.1 := ⟨h.1 r (List.mem_cons_self ..), (List.pairwise_cons.1 h.2).1⟩
theorem gapF_is (t : Nat) : ∀ (xs : List Rg) (f : Nat), Norm xs →
    (gapF xs f t).1 = xs.foldl fromR f ∧ (gapF xs f t).2 = xs.foldl (endR (xs.foldl fromR f)) t ∧ ((gapF xs f t).2 ≤ (gapF xs f t).1 ↔ t ≤ (gapF xs f t).1)
  | [], f, _ => ⟨rfl, rfl, Iff.rfl⟩
  | r :: xs, f, hn => by
    obtain ⟨⟨h1, h2⟩, h3⟩ := hn.head
    unfold gapF
    by_cases c1 : r.2 ≤ f
    · rw [if_pos c1]
      obtain ⟨i1, i2, i3⟩ := gapF_is t xs f hn.tail
      have e1 : fromR f r = f := by rw [fromR, if_neg (by omega)]
      have g := from_ge xs f
      have e2 : endR (xs.foldl fromR f) t r = t := by rw [endR, if_neg (by omega)]
      simp only [List.foldl_cons, e1, e2]
      exact ⟨i1, i2, i3⟩
    · rw [if_neg c1]
      by_cases c2 : f < r.1
      · rw [if_pos c2]
        have e1 : fromR f r = f := by rw [fromR, if_neg (by omega)]
        have e2 : endR f t r = min t r.1 := by rw [endR, if_pos c2]
        simp only [List.foldl_cons, e1]
        rw [from_above xs f (fun x hx => by have := h3 x hx; omega), e2, end_above xs f _ (fun x hx => by have := h3 x hx; omega)]
        exact ⟨rfl, rfl, by omega⟩
      · rw [if_neg c2]
        obtain ⟨i1, i2, i3⟩ := gapF_is t xs r.2 hn.tail
        have e1 : fromR f r = r.2 := by rw [fromR, if_pos (by omega)]
        have g := from_ge xs r.2
        have e2 : endR (xs.foldl fromR r.2) t r = t := by rw [endR, if_neg (by omega)]
        simp only [List.foldl_cons, e1, e2]
        exact ⟨i1, i2, i3⟩
theorem gapR_is (xs : List Rg) (f t : Nat) (hn : Norm xs) : gapR xs f t = gapL xs f t := by
  obtain ⟨i1, i2, i3⟩ := gapF_is t xs f hn
  unfold gapR gapL
  by_cases h : t ≤ xs.foldl fromR f
  · rw [if_pos h, if_pos (by rw [i3, i1]; exact h)]
  · rw [if_neg h, if_neg (by rw [i3, i1]; exact h), ← i2, ← i1]
end Go.Proofs.Ytebiebcpdjipjaa
