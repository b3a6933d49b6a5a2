/- DERIVED. Plain laws: counting the numbers of a list of ranges; gaps. -/
import Derived.Test.YtebiebcpdjipjaaRngLaw4
namespace Go.Proofs.Ytebiebcpdjipjaa
open Go.RowKit

/-- How many numbers below n are such. -/
def cnt (p : Nat → Bool) : Nat → Nat
  | 0 => 0
  | n + 1 => cnt p n + if p n then 1 else 0
theorem cnt_or {p q : Nat → Bool} : ∀ n, (∀ k, k < n → p k = true → q k = false) → cnt (fun k => p k || q k) n = cnt p n + cnt q n
  | 0, _ => rfl
  | n + 1, h => by
    simp only [cnt]
    rw [cnt_or n (fun k hk => h k (by omega))]
    have h1 := h n (by omega)
    have key : ∀ a b : Bool, (a = true → b = false) → (if (a || b) = true then 1 else 0) = (if a = true then 1 else 0) + (if b = true then 1 else 0) := by decide
    rw [key _ _ h1]
    omega
theorem cnt_eq {p q : Nat → Bool} : ∀ n, (∀ k, k < n → p k = q k) → cnt p n = cnt q n
  | 0, _ => rfl
  | n + 1, h => by simp only [cnt]; rw [cnt_eq n (fun k hk => h k (by omega)), h n (by omega)]
theorem cnt_rg (r : Rg) (h : r.1 < r.2) : ∀ n, cnt (fun k => hasP k r) n = min n r.2 - min n r.1
  | 0 => by simp [cnt]
  | n + 1 => by
    simp only [cnt]
    rw [cnt_rg r h n]
    simp only [hasP, Bool.and_eq_true, decide_eq_true_eq]
    split <;> omega
def mem (xs : List Rg) (k : Nat) : Bool := xs.any (hasP k)
theorem mem_lo {xs : List Rg} (_hn : Norm xs) {a : Nat} (h : ∀ r ∈ xs, a < r.1) {k : Nat} (hk : k ≤ a) : mem xs k = false := by
  unfold mem
  rw [List.any_eq_false]
  intro r hr
  have := h r hr
  simp [hasP]
  omega
theorem cntL_cnt (a : Nat) : ∀ xs : List Rg, Norm xs → (∀ r ∈ xs, r.2 ≤ a) → cntL xs = cnt (mem xs) a
  | [], _, _ => by
    have : ∀ n, cnt (mem []) n = 0 := by
      intro n
      induction n with
      | zero => rfl
      | succ n ih => simp [cnt, ih, mem]
    rw [this]
    rfl
  | r :: xs, hn, ha => by
    obtain ⟨⟨h1, h2⟩, h3⟩ := hn.head
    have e : cnt (mem (r :: xs)) a = cnt (fun k => hasP k r || mem xs k) a := cnt_eq a (fun k _ => by simp [mem])
    rw [e, cnt_or a (fun k _ hk => by
      simp [hasP] at hk
      exact mem_lo hn.tail h3 (by omega)), ← cntL_cnt a xs hn.tail (fun x hx => ha x (List.mem_cons_of_mem _ hx)), cnt_rg r h1]
    have := ha r (List.mem_cons_self ..)
    have e2 : cntL (r :: xs) = r.2 - r.1 + cntL xs := by simp [cntL]
    rw [e2]
    omega
theorem cnt_all {p : Nat → Bool} {a : Nat} : ∀ d, (∀ k, a ≤ k → k < a + d → p k = true) → cnt p (a + d) = cnt p a + d
  | 0, _ => rfl
  | d + 1, h => by
    rw [← Nat.add_assoc, cnt, cnt_all d (fun k h1 h2 => h k h1 (by omega)), h (a + d) (by omega) (by omega)]
    simp
    omega
theorem cnt_none {p : Nat → Bool} {a : Nat} : ∀ d, (∀ k, a ≤ k → k < a + d → p k = false) → cnt p (a + d) = cnt p a
  | 0, _ => rfl
  | d + 1, h => by
    rw [← Nat.add_assoc, cnt, cnt_none d (fun k h1 h2 => h k h1 (by omega)), h (a + d) (by omega) (by omega)]
    simp

/-- What a gap is. -/
theorem gapF_facts (t : Nat) : ∀ (xs : List Rg) (f : Nat), Norm xs → f ≤ (gapF xs f t).1 ∧ (gapF xs f t).2 ≤ t ∧
    (∀ k, f ≤ k → k < (gapF xs f t).1 → mem xs k = true) ∧ (∀ k, (gapF xs f t).1 ≤ k → k < (gapF xs f t).2 → mem xs k = false)
  | [], f, _ => ⟨Nat.le_refl _, Nat.le_refl _, fun k h1 h2 => by simp [gapF] at h2; omega, fun k _ _ => rfl⟩
  | r :: xs, f, hn => by
    obtain ⟨⟨h1, h2⟩, h3⟩ := hn.head
    unfold gapF
    by_cases c1 : r.2 ≤ f
    · rw [if_pos c1]
      obtain ⟨i1, i2, i3, i4⟩ := gapF_facts t xs f hn.tail
      refine ⟨i1, i2, fun k a b => ?_, fun k a b => ?_⟩
      · have := i3 k a b
        simp [mem] at this ⊢
        exact .inr this
      · have := i4 k a b
        unfold mem at *
        rw [List.any_cons, this]
        simp [hasP]
        omega
    · rw [if_neg c1]
      by_cases c2 : f < r.1
      · rw [if_pos c2]
        refine ⟨Nat.le_refl _, Nat.min_le_left _ _, fun k a b => by simp only at b; omega, fun k a b => ?_⟩
        simp only at a b
        have := mem_lo hn.tail (a := r.2) h3 (k := k) (by omega)
        unfold mem at *
        rw [List.any_cons, this]
        simp [hasP]
        omega
      · rw [if_neg c2]
        obtain ⟨i1, i2, i3, i4⟩ := gapF_facts t xs r.2 hn.tail
        refine ⟨by omega, i2, fun k a b => ?_, fun k a b => ?_⟩
        · by_cases hk : k < r.2
          · simp [mem, hasP]
            left
            omega
          · have := i3 k (by omega) b
            simp [mem] at this ⊢
            exact .inr this
        · have := i4 k a b
          unfold mem at *
          rw [List.any_cons, this]
          simp [hasP]
          omega
theorem gap_step {xs : List Rg} {f t : Nat} {r : Rg} (hn : Norm xs) (h : gapL xs f t = (r, true)) :
    f ≤ r.1 ∧ r.1 < r.2 ∧ r.2 ≤ t ∧ (∀ k, r.1 ≤ k → k < r.2 → xs.any (hasP k) = false) ∧ cnt (mem xs) r.2 = cnt (mem xs) f + (r.1 - f) := by
  obtain ⟨i1, i2, i3, i4⟩ := gapF_facts t xs f hn
  unfold gapL at h
  split at h
  · simp at h
  · rename_i c
    have h' : gapF xs f t = r := congrArg Prod.fst h
    rw [h'] at i1 i2 i3 i4 c
    refine ⟨i1, by omega, i2, i4, ?_⟩
    have e1 : r.2 = r.1 + (r.2 - r.1) := by omega
    have e2 : r.1 = f + (r.1 - f) := by omega
    have e3 := cnt_none (p := mem xs) (a := r.1) (r.2 - r.1) (fun k a b => i4 k a (by omega))
    have e4 := cnt_all (p := mem xs) (a := f) (r.1 - f) (fun k a b => i3 k a (by omega))
    rw [← e1] at e3
    rw [← e2] at e4
    omega
theorem gap_end {xs : List Rg} {f t : Nat} {g : Rg} (hn : Norm xs) (hf : f ≤ t) (ht : ∀ r ∈ xs, r.2 ≤ t) (h : gapL xs f t = (g, false)) : cntL xs = cnt (mem xs) f + (t - f) := by
  obtain ⟨i1, i2, i3, i4⟩ := gapF_facts t xs f hn
  obtain ⟨_, _, j3⟩ := gapF_is t xs f hn
  unfold gapL at h
  split at h
  · rename_i c
    have hle := j3.1 c
    rw [cntL_cnt t xs hn ht, show t = f + (t - f) from by omega, cnt_all _ (fun k a b => i3 k a (by omega))]
    omega
  · simp at h
end Go.Proofs.Ytebiebcpdjipjaa
