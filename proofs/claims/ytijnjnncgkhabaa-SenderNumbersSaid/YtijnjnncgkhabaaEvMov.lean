/- DERIVED. A call that leaves a block somewhere, in an old one's place or new: our memory after it. -/
import Derived.Test.YtijnjnncgkhabaaEvRep
set_option linter.unusedVariables false
namespace Go.Proofs.Ytijnjnncgkhabaa
namespace Ev
open Go.RowKit

theorem HR.moved {β : Id → CA} {D : Id → Prop} {B : Nat} {h : Heap} {w w' : World} (hr : HR β D B h w) {id nid : Id} (hd : ¬ D nid) {a : CA} {k : Blk}
    (hblk : ∃ c el fz, w'.heap[a.blk]? = some (.cells c el fz) ∧ c.size = a.lim ∧ fzok k.z.s fz c.size ∧ Cells β D c a.base k.c ∧ Zok k.z a k.c.length) (hB : B ≤ a.blk)
    (hoth : ∀ j kk, h j = some kk → j ≠ id → (β j).blk ≠ a.blk ∧ w'.heap[(β j).blk]? = w.heap[(β j).blk]?) (hsz : w.heap.size ≤ w'.heap.size) :
    HR (named β nid a) (fun j => D j ∨ j = nid) B (Heap.put (Heap.put h id none) nid (some k)) w' := by
  have hx := named_ext β (D := D) (id := nid) a hd
  have hold : ∀ j, D j → named β nid a j = β j := fun j hj => (hx.keep j hj).2
  have there : ∀ j kk, Heap.put (Heap.put h id none) nid (some k) j = some kk → (j = nid ∧ kk = k) ∨ (j ≠ id ∧ h j = some kk) := fun j kk hk => by
    by_cases e : j.num = nid.num
    · simp only [Heap.put, if_pos e] at hk
      cases hk
      exact .inl ⟨Id.num_inj e, rfl⟩
    · simp only [Heap.put, if_neg e] at hk
      by_cases e' : j.num = id.num
      · rw [if_pos e'] at hk; cases hk
      · rw [if_neg e'] at hk
        exact .inr ⟨fun x => e' (by rw [x]), hk⟩
  refine ⟨fun j kk hk => ?_, fun i j hi hj e => ?_, fun j hj => ?_, Nat.le_trans hr.size hsz⟩
  · rcases there j kk hk with ⟨rfl, rfl⟩ | ⟨hn, hj⟩
    · obtain ⟨c, el, fz, h1, h2, h3, h4, h5⟩ := hblk
      refine ⟨.inr rfl, c, el, fz, ?_, ?_, h3, ?_, ?_⟩
      · rw [named_same]; exact h1
      · rw [named_same]; exact h2
      · rw [named_same]; exact Cells.mono hx h4
      · rw [named_same]; exact h5
    · obtain ⟨h1, c, el, fz, h2, h3, h4, h5, h6⟩ := hr.live j kk hj
      refine ⟨.inl h1, c, el, fz, ?_, ?_, h4, ?_, ?_⟩
      · rw [hold j h1, (hoth j kk hj hn).2]; exact h2
      · rw [hold j h1]; exact h3
      · rw [hold j h1]; exact Cells.mono hx h5
      · rw [hold j h1]; exact h6
  · have ex : ∀ i, Heap.put (Heap.put h id none) nid (some k) i ≠ none → i = nid ∨ ∃ kk, i ≠ id ∧ h i = some kk := fun i hi => by
      cases hq : Heap.put (Heap.put h id none) nid (some k) i with
      | none => exact absurd hq hi
      | some kk =>
        rcases there i kk hq with ⟨x, _⟩ | ⟨x, y⟩
        · exact .inl x
        · exact .inr ⟨kk, x, y⟩
    rcases ex i hi with rfl | ⟨ki, ni, qi⟩
    · rcases ex j hj with rfl | ⟨kj, nj, qj⟩
      · rfl
      · rw [named_same, hold j (hr.live j kj qj).1] at e
        exact absurd e.symm (hoth j kj qj nj).1
    · rcases ex j hj with rfl | ⟨kj, nj, qj⟩
      · rw [named_same, hold i (hr.live i ki qi).1] at e
        exact absurd e (hoth i ki qi ni).1
      · rw [hold i (hr.live i ki qi).1, hold j (hr.live j kj qj).1] at e
        exact hr.inj i j (by rw [qi]; simp) (by rw [qj]; simp) e
  · rcases hj with hj | rfl
    · rw [hold j hj]; exact hr.old j hj
    · rw [named_same]; exact hB
end Ev
end Go.Proofs.Ytijnjnncgkhabaa
