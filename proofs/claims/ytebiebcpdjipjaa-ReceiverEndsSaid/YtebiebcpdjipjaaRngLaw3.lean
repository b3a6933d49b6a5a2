/- DERIVED. Plain laws: what adds, cuts, trims keep; what is in a list behind them. -/
import Derived.Test.YtebiebcpdjipjaaRngLaw2
namespace Go.Proofs.Ytebiebcpdjipjaa
open Go.RowKit

theorem addN_above (L : Nat) : ∀ (rs : List Rg) (x : Rg), L < x.1 → (∀ r ∈ rs, L < r.1) → ∀ a ∈ addN rs x, L < a.1
  | [], x, hx, _, a, ha => by simp [addN] at ha; subst ha; exact hx
  | r :: rs, x, hx, hr, a, ha => by
    have h1 := hr r (List.mem_cons_self ..)
    have h2 : ∀ r ∈ rs, L < r.1 := fun b hb => hr b (List.mem_cons_of_mem _ hb)
    unfold addN at ha
    split at ha
    · rcases List.mem_cons.1 ha with rfl | ha
      · exact h1
      · exact addN_above L rs x hx h2 a ha
    · split at ha
      · rcases List.mem_cons.1 ha with rfl | ha
        · exact hx
        · exact hr a ha
      · exact addN_above L rs _ (by simp only []; omega) h2 a ha
theorem addN_norm : ∀ (rs : List Rg) (x : Rg), x.1 < x.2 → x.2 ≤ 4611686018427387904 → Norm rs → Norm (addN rs x)
  | [], x, h1, h2, _ => ⟨by intro a ha; simp [addN] at ha; subst ha; exact ⟨h1, h2⟩, by simp [addN]⟩
  | r :: rs, x, h1, h2, hn => by
    obtain ⟨⟨h3, h4⟩, h5⟩ := hn.head
    unfold addN
    split
    · rename_i c
      have ih := addN_norm rs x h1 h2 hn.tail
      refine ⟨?_, List.pairwise_cons.2 ⟨addN_above r.2 rs x c h5, ih.2⟩⟩
      intro a ha
      rcases List.mem_cons.1 ha with rfl | ha
      · exact ⟨h3, h4⟩
      · exact ih.1 a ha
    · split
      · rename_i c1 c2
        refine ⟨?_, List.pairwise_cons.2 ⟨?_, hn.2⟩⟩
        · intro a ha
          rcases List.mem_cons.1 ha with rfl | ha
          · exact ⟨h1, h2⟩
          · exact hn.1 a ha
        · intro a ha
          rcases List.mem_cons.1 ha with rfl | ha
          · exact c2
          · have := h5 a ha
            omega
      · exact addN_norm rs _ (by simp only []; omega) (by simp only []; omega) hn.tail
theorem addN_len : ∀ (rs : List Rg) (x : Rg), (addN rs x).length ≤ rs.length + 1
  | [], x => by simp [addN]
  | r :: rs, x => by
    unfold addN
    split
    · have := addN_len rs x
      simp only [List.length_cons]
      omega
    · split
      · simp
      · have := addN_len rs (min x.1 r.1, max x.2 r.2)
        simp only [List.length_cons]
        omega
theorem Norm.drop {xs : List Rg} (h : Norm xs) (k : Nat) : Norm (xs.drop k) :=
  ⟨fun r hr => h.1 r (List.mem_of_mem_drop hr), h.2.sublist (List.drop_sublist _ _)⟩
theorem trim_norm {xs : List Rg} (most : Int) (h : Norm xs) : Norm (trimL most xs) := h.drop _
theorem trim_len (most : Int) (xs : List Rg) (h : 0 ≤ most) : ((trimL most xs).length : Int) ≤ most ∧ (trimL most xs).length ≤ xs.length := by
  unfold trimL
  rw [List.length_drop]
  omega
theorem cut1_in {lo hi : Nat} {r a : Rg} (hr : r.1 < r.2) (ha : a ∈ cut1 lo hi r) : r.1 ≤ a.1 ∧ a.1 < a.2 ∧ a.2 ≤ r.2 := by
  unfold cut1 at ha
  split at ha
  · simp at ha
    subst ha
    omega
  · rename_i c
    rcases List.mem_append.1 ha with ha | ha
    · split at ha
      · simp at ha
        subst ha
        simp only []
        omega
      · simp at ha
    · split at ha
      · simp at ha
        subst ha
        simp only []
        omega
      · simp at ha
theorem cut1_norm {lo hi : Nat} {r : Rg} (hr : r.1 < r.2 ∧ r.2 ≤ 4611686018427387904) : Norm (cut1 lo hi r) := by
  refine ⟨fun a ha => by have := cut1_in hr.1 ha; omega, ?_⟩
  unfold cut1
  split
  · simp
  · split <;> split <;> simp
    omega
theorem cut_norm (lo hi : Nat) : ∀ xs : List Rg, Norm xs → Norm (cutRaw lo hi xs)
  | [], _ => ⟨by simp [cutRaw], by simp [cutRaw]⟩
  | r :: xs, hn => by
    obtain ⟨h1, h2⟩ := hn.head
    have ih := cut_norm lo hi xs hn.tail
    have hc := cut1_norm (lo := lo) (hi := hi) h1
    have e : cutRaw lo hi (r :: xs) = cut1 lo hi r ++ cutRaw lo hi xs := by simp [cutRaw]
    rw [e]
    refine ⟨?_, List.pairwise_append.2 ⟨hc.2, ih.2, ?_⟩⟩
    · intro a ha
      rcases List.mem_append.1 ha with ha | ha
      · exact hc.1 a ha
      · exact ih.1 a ha
    · intro a ha b hb
      obtain ⟨c, hc1, hc2⟩ := List.mem_flatMap.1 hb
      have := cut1_in h1.1 ha
      have := cut1_in (hn.tail.1 c hc1).1 hc2
      have := h2 c hc1
      omega
end Go.Proofs.Ytebiebcpdjipjaa
