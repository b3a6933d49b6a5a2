/- DERIVED. Ranges in memory: rows of two numbers each; slices that lie at the head of a row. -/
import Derived.Test.YtebiebcpdjipjaaRows
import Derived.Test.YtebiebcpdjipjaaRow
namespace Go.Proofs.Ytebiebcpdjipjaa
open Go.RowKit

abbrev Rg : Type := Nat × Nat
def encR (r : Rg) : List Value := [.int .u64 r.1, .int .u64 r.2]
theorem encR_len (r : Rg) : (encR r).length = 2 := rfl
theorem encR_one (r : Rg) : ∀ v ∈ encR r, v.oneCell' = true := by
  intro v hv
  simp [encR] at hv
  rcases hv with rfl | rfl <;> rfl
theorem infoR : (Try.prog.info? 93).map (fun i => (i.zero, i.size, i.bytes)) = some (some (.agg #[.int .u64 0, .int .u64 0]), 2, 16) := by kernel_rfl
theorem zeroR : (Value.agg #[.int .u64 0, .int .u64 0]).cells.toList = encR (0, 0) := rfl

abbrev RowR (w : World) (g : Nat) (rs : List Rg) : Prop := Row encR w 93 g rs

/-- A slice value that is nil, or lies at the head of the row og, and reads as xs. -/
def Sl (w : World) (v : Value) (og : Option Nat) (xs : List Rg) : Prop :=
  (v = .slice none 0 0 ∧ xs = [] ∧ og = none) ∨
  ∃ g ys, og = some g ∧ v = .slice (some ⟨g, 0, none⟩) xs.length (xs.length + ys.length) ∧ RowR w g (xs ++ ys) ∧ xs.length + ys.length ≤ 9223372036854775807

/-- Row g begins with xs; it has room for cap in all. -/
def Head (w : World) (g : Nat) (xs : List Rg) (cap : Nat) : Prop := ∃ ys, RowR w g (xs ++ ys) ∧ xs.length + ys.length = cap
theorem Head.sl {w : World} {g cap n : Nat} {xs : List Rg} (h : Head w g xs cap) (hc : cap ≤ 9223372036854775807) (hn : n = xs.length) : Sl w (.slice (some ⟨g, 0, none⟩) n cap) (some g) xs := by
  obtain ⟨ys, h1, h2⟩ := h
  subst hn
  exact .inr ⟨g, ys, rfl, by rw [h2], h1, by omega⟩

theorem Sl.nil (w : World) : Sl w (.slice none 0 0) none [] := .inl ⟨rfl, rfl, rfl⟩
theorem Sl.lt {w : World} {v : Value} {og : Option Nat} {xs : List Rg} (h : Sl w v og xs) : ∀ g, og = some g → g < w.heap.size := by
  rcases h with ⟨_, _, rfl⟩ | ⟨g, ys, rfl, _, h, _⟩
  · intro g hg; cases hg
  · intro g' hg
    cases hg
    exact heap_lt h
theorem Sl.keeps {F : Nat → Prop} {w w' : World} {v : Value} {og : Option Nat} {xs : List Rg} (h : Sl w v og xs) (hu : Upd F w w') (hF : ∀ g, og = some g → ¬ F g) : Sl w' v og xs := by
  rcases h with h | ⟨g, ys, rfl, hv, h, hl⟩
  · exact .inl h
  · exact .inr ⟨g, ys, rfl, hv, hu.keeps h (hF g rfl), hl⟩
theorem Sl.below {w w' : World} {v : Value} {og : Option Nat} {xs : List Rg} (h : Sl w v og xs) (hu : Below w.heap.size w w') : Sl w' v og xs :=
  h.keeps (Upd.below hu) (fun g hg => by have := h.lt g hg; omega)
theorem Sl.drewN {w : World} {v : Value} {og : Option Nat} {xs : List Rg} (h : Sl w v og xs) (n : Nat) : Sl (w.drewN n) v og xs := h

theorem splice_end {β : Type} (a b c : List β) (_h : c.length ≤ b.length) : splice (a ++ b) a.length c = a ++ (c ++ b.drop c.length) := by
  unfold splice
  rw [List.take_append_of_le_length (Nat.le_refl _), List.take_length, ← List.drop_drop, List.drop_append_of_le_length (Nat.le_refl _), List.drop_length, List.nil_append]
theorem splice_at {β : Type} (L a b c : List β) (hL : L = a ++ b) (o : Nat) (ho : o = a.length) (h : c.length ≤ b.length) : splice L o c = a ++ (c ++ b.drop c.length) := by
  subst hL ho
  exact splice_end a b c h
end Go.Proofs.Ytebiebcpdjipjaa
