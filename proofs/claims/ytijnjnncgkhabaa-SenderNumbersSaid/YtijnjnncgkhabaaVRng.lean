/- DERIVED. Ranges in memory: rows of two numbers each; slices that lie at the head of a row. -/
import Derived.Test.YtijnjnncgkhabaaRows
import Derived.Test.YtijnjnncgkhabaaVRow
namespace Go.Proofs.Ytijnjnncgkhabaa
open Go.RowKit

/-- two cells, whatever they hold -/
abbrev Rg : Type := Value × Value
def encR (r : Rg) : List Value := [r.1, r.2]
def oneR (r : Rg) : Prop := r.1.oneCell' = true ∧ r.2.oneCell' = true
def z0 : Rg := (.int .u64 0, .int .u64 0)
theorem z0_one : oneR z0 := ⟨rfl, rfl⟩
theorem encR_len (r : Rg) : (encR r).length = 2 := rfl
theorem encR_one (r : Rg) (h : oneR r) : ∀ v ∈ encR r, v.oneCell' = true := by
  intro v hv
  simp [encR] at hv
  rcases hv with rfl | rfl
  · exact h.1
  · exact h.2
theorem infoR : (Try.prog.info? 53).map (fun i => (i.zero, i.size, i.bytes)) = some (some (.agg #[.int .u64 0, .int .u64 0]), 2, 16) := by kernel_rfl
theorem zeroR : (Value.agg #[.int .u64 0, .int .u64 0]).cells.toList = encR z0 := rfl

abbrev RowR (E : TypeId) (w : World) (g : Nat) (rs : List Rg) : Prop := Row encR w E g rs
/-- Row g begins with xs; it has room for cap in all. -/
def Head (E : TypeId) (w : World) (g : Nat) (xs : List Rg) (cap : Nat) : Prop := ∃ ys, RowR E w g (xs ++ ys) ∧ xs.length + ys.length = cap

theorem splice_end {β : Type} (a b c : List β) (_h : c.length ≤ b.length) : splice (a ++ b) a.length c = a ++ (c ++ b.drop c.length) := by
  unfold splice
  rw [List.take_append_of_le_length (Nat.le_refl _), List.take_length, ← List.drop_drop, List.drop_append_of_le_length (Nat.le_refl _), List.drop_length, List.nil_append]
theorem splice_at {β : Type} (L a b c : List β) (hL : L = a ++ b) (o : Nat) (ho : o = a.length) (h : c.length ≤ b.length) : splice L o c = a ++ (c ++ b.drop c.length) := by
  subst hL ho
  exact splice_end a b c h
end Go.Proofs.Ytijnjnncgkhabaa
