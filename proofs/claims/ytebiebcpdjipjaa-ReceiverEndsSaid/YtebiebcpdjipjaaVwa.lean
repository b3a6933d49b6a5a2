/- DERIVED. Slices that are only read, and lie apart from some blocks. -/
import Derived.Test.YtebiebcpdjipjaaHeld
namespace Go.Proofs.Ytebiebcpdjipjaa
open Go.RowKit

section
variable {α : Type} {enc : α → List Value}
/-- A slice that is only read, and lies apart from some blocks. -/
def VwA (enc : α → List Value) (fp : Nat → Prop) (w : World) (v : Value) (xs : List α) : Prop :=
  ∃ oa cap, v = .slice oa xs.length cap ∧ xs.length ≤ cap ∧ cap ≤ 9223372036854775807 ∧ (xs = [] ∨ ∃ b off, oa = some ⟨b, off, none⟩ ∧ b < w.heap.size ∧ ¬ fp b ∧ ∀ j u, (flat enc xs)[j]? = some u → w.cell? ⟨b, off + j, none⟩ = some u)
theorem Vw.apart {w : World} {B : Nat} {v : Value} {xs : List α} {fp : Nat → Prop} (h : Vw enc w B v xs) (hB : B ≤ w.heap.size) (hf : ∀ k, fp k → B ≤ k) : VwA enc fp w v xs := by
  obtain ⟨oa, cap, h1, h2, h3, h4⟩ := h
  refine ⟨oa, cap, h1, h2, h3, ?_⟩
  rcases h4 with h4 | ⟨b, off, h4, h5, h6⟩
  · exact .inl h4
  · exact .inr ⟨b, off, h4, by omega, fun hb => by have := hf b hb; omega, h6⟩
theorem VwA.upd {w w' : World} {v : Value} {xs : List α} {fp F : Nat → Prop} (h : VwA enc fp w v xs) (hu : Upd F w w') (hF : ∀ k, F k → fp k) : VwA enc fp w' v xs := by
  obtain ⟨oa, cap, h1, h2, h3, h4⟩ := h
  refine ⟨oa, cap, h1, h2, h3, ?_⟩
  rcases h4 with h4 | ⟨b, off, h4, h5, h6, h7⟩
  · exact .inl h4
  · refine .inr ⟨b, off, h4, Nat.lt_of_lt_of_le h5 hu.size, h6, fun j u hj => ?_⟩
    rw [World.cell?_of_block (hu.block b h5 (fun hx => h6 (hF b hx)))]
    exact h7 j u hj
theorem VwA.shape {fp : Nat → Prop} {w : World} {v : Value} {xs : List α} (h : VwA enc fp w v xs) : ∃ oa cap, v = .slice oa xs.length cap ∧ xs.length ≤ cap ∧ cap ≤ 9223372036854775807 := by
  obtain ⟨oa, cap, h1, h2, h3, _⟩ := h
  exact ⟨oa, cap, h1, h2, h3⟩
end
theorem VwA.byte {fp : Nat → Prop} {w : World} {oa : Option Addr} {n cap : Nat} {xs : List Nat} (h : VwA encB fp w (.slice oa n cap) xs) {i x : Nat} (hx : xs[i]? = some x) :
    ∃ b off, oa = some ⟨b, off, none⟩ ∧ w.cell? ⟨b, off + i, none⟩ = some (.int .u8 x) := by
  obtain ⟨oa', cap', h1, h2, h3, h4⟩ := h
  cases h1
  rcases h4 with rfl | ⟨b, off, rfl, h5, h6, h7⟩
  · simp at hx
  · refine ⟨b, off, rfl, h7 i _ ?_⟩
    rw [flatB, List.getElem?_map, hx]
    rfl

theorem VwA.mono {α : Type} {enc : α → List Value} {w : World} {v : Value} {xs : List α} {fp F : Nat → Prop} (h : VwA enc fp w v xs) (hF : ∀ k, F k → fp k) : VwA enc F w v xs := by
  obtain ⟨oa, cap, h1, h2, h3, h4⟩ := h
  refine ⟨oa, cap, h1, h2, h3, ?_⟩
  rcases h4 with h4 | ⟨b, off, h4, h5, h6, h7⟩
  · exact .inl h4
  · exact .inr ⟨b, off, h4, h5, fun q => h6 (hF b q), h7⟩
theorem VwA.below {α : Type} {enc : α → List Value} {w w' : World} {v : Value} {xs : List α} {fp : Nat → Prop} (h : VwA enc fp w v xs) (hb : Below w.heap.size w w') : VwA enc fp w' v xs := by
  obtain ⟨oa, cap, h1, h2, h3, h4⟩ := h
  refine ⟨oa, cap, h1, h2, h3, ?_⟩
  rcases h4 with h4 | ⟨b, off, h4, h5, h6, h7⟩
  · exact .inl h4
  · refine .inr ⟨b, off, h4, Nat.lt_of_lt_of_le h5 hb.size, h6, fun j u hj => ?_⟩
    rw [hb.cell (p := ⟨b, off + j, none⟩) h5]
    exact h7 j u hj
theorem VwA.front {α : Type} {enc : α → List Value} {k : Nat} (hk : ∀ a, (enc a).length = k) {fp : Nat → Prop} {w : World} {oa : Option Addr} {len cap : Nat} {xs : List α} (h : VwA enc fp w (.slice oa len cap) xs) (n : Nat) (hn : n ≤ len) : VwA enc fp w (.slice oa n cap) (xs.take n) := by
  obtain ⟨oa', cap', h1, h2, h3, h4⟩ := h
  cases h1
  have hl : (xs.take n).length = n := by rw [List.length_take]; omega
  refine ⟨oa, cap, by rw [hl], by rw [hl]; omega, h3, ?_⟩
  rcases h4 with rfl | ⟨b, off, rfl, h5, h6, h7⟩
  · left
    simp
  · refine .inr ⟨b, off, rfl, h5, h6, fun j u hj => h7 j u ?_⟩
    rw [← flat_take hk] at hj
    rw [List.getElem?_take] at hj
    split at hj
    · exact hj
    · cases hj
theorem SlG.vwa {α : Type} {enc : α → List Value} {E : TypeId} {fp : Nat → Prop} {w : World} {v : Value} {og : Option Nat} {xs : List α} (h : SlG enc E w v og xs) (ha : ∀ g, og = some g → ¬ fp g) : VwA enc fp w v xs := by
  rcases h with ⟨rfl, rfl, rfl⟩ | ⟨g, ys, rfl, rfl, hr, hl⟩
  · exact ⟨none, 0, rfl, by simp, by omega, .inl rfl⟩
  · refine ⟨_, _, rfl, by omega, hl, .inr ⟨g, 0, rfl, heap_lt hr, ha g rfl, ?_⟩⟩
    intro j u hj
    rw [Nat.zero_add, hr.cell, flat_append, List.getElem?_append_left (by rw [List.getElem?_eq_some_iff] at hj; exact hj.1)]
    exact hj
theorem lit_vwa {fp : Nat → Prop} {w : World} {g n c : Nat} {cs : Array Value} {t : TypeId} {z : Nat × Nat} {xs : List Nat} (h : w.heap[g]? = some (.cells cs t z)) (hl : cs.toList = flat encB xs) (hf : ¬ fp g) (hn : n = xs.length) (hc : n ≤ c) (hc2 : c ≤ 9223372036854775807) :
    VwA encB fp w (.slice (some ⟨g, 0, none⟩) n c) xs := by
  subst hn
  refine ⟨_, c, rfl, hc, hc2, .inr ⟨g, 0, rfl, heap_lt h, hf, fun j u hu => ?_⟩⟩
  rw [Nat.zero_add, cell_at h]
  rw [← hl] at hu
  simpa using hu
end Go.Proofs.Ytebiebcpdjipjaa
