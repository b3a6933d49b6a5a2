/- DERIVED. Plain laws: the two ways to add a range are one. -/
import Derived.Test.YtebiebcpdjipjaaRngLaw
namespace Go.Proofs.Ytebiebcpdjipjaa
open Go.RowKit

def addN : List Rg → Rg → List Rg
  | [], x => [x]
  | r :: rs, x => if r.2 < x.1 then r :: addN rs x else if x.2 < r.1 then x :: r :: rs else addN rs (min x.1 r.1, max x.2 r.2)

theorem ra_after (rs : List Rg) : ∀ (ys : List Rg) (x : Rg), (∀ r ∈ rs, ¬ r.2 < x.1 ∧ x.2 < r.1) → rs.foldl Ra.step ⟨ys, x, true⟩ = ⟨ys ++ rs, x, true⟩ := by
  induction rs with
  | nil => intro ys x _; simp
  | cons r rs ih =>
    intro ys x h
    obtain ⟨h1, h2⟩ := h r (List.mem_cons_self ..)
    simp only [List.foldl_cons]
    rw [show Ra.step ⟨ys, x, true⟩ r = ⟨ys ++ [r], x, true⟩ by simp [Ra.step, h1, h2], ih _ _ (fun a ha => h a (List.mem_cons_of_mem _ ha))]
    simp
def Ra.fin (s : Ra) : List Rg := if s.done then s.out else s.out ++ [s.x]
theorem ra_is (rs : List Rg) : ∀ (ys : List Rg) (x : Rg), x.1 < x.2 → Norm rs → (rs.foldl Ra.step ⟨ys, x, false⟩).fin = ys ++ addN rs x := by
  induction rs with
  | nil => intro ys x _ _; simp [Ra.fin, addN]
  | cons r rs ih =>
    intro ys x hx hn
    obtain ⟨⟨h1, h2⟩, h3⟩ := hn.head
    simp only [List.foldl_cons, addN]
    by_cases c1 : r.2 < x.1
    · rw [if_pos c1, show Ra.step ⟨ys, x, false⟩ r = ⟨ys ++ [r], x, false⟩ by simp [Ra.step, c1], ih _ _ hx hn.tail]
      simp
    · rw [if_neg c1]
      by_cases c2 : x.2 < r.1
      · rw [if_pos c2, show Ra.step ⟨ys, x, false⟩ r = ⟨ys ++ [x] ++ [r], x, true⟩ by simp [Ra.step, c1, c2], ra_after _ _ _ (fun a ha => by
          have := h3 a ha
          have := hn.1 a (List.mem_cons_of_mem _ ha)
          omega)]
        simp [Ra.fin]
      · rw [if_neg c2, show Ra.step ⟨ys, x, false⟩ r = ⟨ys, (min x.1 r.1, max x.2 r.2), false⟩ by simp [Ra.step, c1, c2], ih _ _ (by simp only []; omega) hn.tail]
theorem addR_is {xs : List Rg} {lo hi : Nat} (h : lo < hi) (hn : Norm xs) : addR lo hi xs = addN xs (lo, hi) := by
  have := ra_is xs [] (lo, hi) h hn
  rw [List.nil_append] at this
  exact this

theorem addN_mid (hi : Nat) : ∀ (rs : List Rg) (x : Rg), x.1 < x.2 → Norm rs → (∀ r ∈ rs, x.1 ≤ r.2) → (∀ r ∈ rs, x.2 < r.1 ↔ hi < r.1) →
    addN rs x = fuse x (rs.takeWhile (fun x => decide (x.1 ≤ hi))) :: rs.drop (rs.takeWhile (fun x => decide (x.1 ≤ hi))).length
  | [], x, _, _, _, _ => by simp [addN, fuse]
  | r :: rs, x, hx, hn, hb, hc => by
    obtain ⟨⟨h1, h2⟩, h3⟩ := hn.head
    have b1 := hb r (List.mem_cons_self ..)
    have c1 := hc r (List.mem_cons_self ..)
    rw [addN, if_neg (by omega)]
    by_cases c2 : x.2 < r.1
    · rw [if_pos c2, List.takeWhile_cons_of_neg (by simpa using c1.1 c2)]
      simp [fuse]
    · have c3 : ¬ hi < r.1 := fun h => c2 (c1.2 h)
      rw [if_neg c2, List.takeWhile_cons_of_pos (by simpa using Nat.le_of_not_lt c3), addN_mid hi rs _ (by simp only []; omega) hn.tail (fun a ha => by
        have := h3 a ha
        have := hn.1 a (List.mem_cons_of_mem _ ha)
        simp only []
        omega) (fun a ha => by
        have := h3 a ha
        have := hn.1 a (List.mem_cons_of_mem _ ha)
        have := hc a (List.mem_cons_of_mem _ ha)
        simp only []
        omega)]
      simp [fuse]
theorem addRaw_is {lo hi : Nat} (h : lo < hi) : ∀ (xs : List Rg), Norm xs → addRaw xs lo hi = addN xs (lo, hi)
  | [], _ => by simp [addRaw, iOf, kOf, fuse, addN]
  | r :: rs, hn => by
    obtain ⟨⟨h1, h2⟩, h3⟩ := hn.head
    by_cases c1 : r.2 < lo
    · have ih := addRaw_is h rs hn.tail
      have hi1 : iOf (r :: rs) lo = iOf rs lo + 1 := by unfold iOf; rw [List.takeWhile_cons_of_pos (by simpa using c1)]; simp
      have hk1 : kOf (r :: rs) (iOf (r :: rs) lo) hi = kOf rs (iOf rs lo) hi + 1 := by rw [hi1]; unfold kOf; simp; omega
      rw [addN, if_pos c1, ← ih]
      unfold addRaw
      rw [hk1, hi1]
      simp
    · have hi0 : iOf (r :: rs) lo = 0 := by unfold iOf; rw [List.takeWhile_cons_of_neg (by simpa using c1)]; rfl
      have := addN_mid hi (r :: rs) (lo, hi) h hn (fun a ha => by
        rcases List.mem_cons.1 ha with rfl | ha
        · simp only []; omega
        · have := h3 a ha
          have := hn.1 a (List.mem_cons_of_mem _ ha)
          simp only []
          omega) (fun a _ => Iff.rfl)
      rw [this]
      unfold addRaw
      rw [hi0]
      unfold kOf
      simp only [List.take_zero, List.nil_append, List.drop_zero, Nat.zero_add]
      congr 2
      exact (List.prefix_iff_eq_take.1 (List.takeWhile_prefix _)).symm
theorem addRaw_addR {xs : List Rg} {lo hi : Nat} (h : lo < hi) (hn : Norm xs) : addR lo hi xs = addRaw xs lo hi := by rw [addR_is h hn, addRaw_is h xs hn]
end Go.Proofs.Ytebiebcpdjipjaa
