/- DERIVED. Rows of pairs out of cells: for slices.Replace taken whole. -/
import Derived.Test.YtijnjnncgkhabaaVReplAny
import Derived.Test.YtijnjnncgkhabaaEvMov
namespace Go.Proofs.Ytijnjnncgkhabaa
namespace Ev
open Go.RowKit
theorem pairs_of : ∀ (m : Nat) (l : List Value), l.length = m * 2 → ∃ rs : List Rg, flat encR rs = l ∧ rs.length = m
  | 0, [], _ => ⟨[], rfl, rfl⟩
  | 0, _ :: _, h => by simp at h
  | m + 1, [], h => by simp at h
  | m + 1, [_], h => by simp at h; omega
  | m + 1, a :: b :: l, h => by
    obtain ⟨rs, h1, h2⟩ := pairs_of m l (by simp at h; omega)
    exact ⟨(a, b) :: rs, by rw [flat_cons, h1]; rfl, by simp [h2]⟩
/-- A block that is not frozen, begins at cell 0 and holds an even number of cells is a row of pairs. -/
theorem row_of {β : Id → CA} {D : Id → Prop} {B : Nat} {h : Heap} {w : World} (hr : HR β D B h w) {id : Id} {k : Blk} (hk : h id = some k) (hs : k.z.s = false) (hb : k.z.b = true) {m : Nat} (hm : (β id).lim = m * 2) :
    ∃ (rs : List Rg) (E : TypeId), RowR E w (β id).blk rs ∧ rs.length = m ∧ (β id).base = 0 ∧ Cells β D (flat encR rs).toArray 0 k.c := by
  obtain ⟨hd, c, el, fz, h1, h2, h3, h4, h5⟩ := hr.live id k hk
  rw [hs] at h3
  simp only [fzok] at h3
  subst h3
  have h0 := h5.b hb
  obtain ⟨rs, e1, e2⟩ := pairs_of m c.toList (by rw [← hm, ← h2]; simp)
  have e3 : (flat encR rs).toArray = c := by rw [e1]
  refine ⟨rs, el, ?_, e2, h0, ?_⟩
  · show w.heap[(β id).blk]? = _
    rw [e3]; exact h1
  · rw [e3, ← h0]; exact h4
/-- The first cells of a row of pairs, as ours. -/
theorem take_vrs {β : Id → CA} {D : Id → Prop} {rs : List Rg} {l : List AV} {n : Nat} (hc : Cells β D (flat encR rs).toArray 0 l) (hn : n * 2 ≤ l.length) : VRs β D (l.take (n * 2)) (flat encR (rs.take n)) := by
  have hf := hc.fit
  rw [← flat_take encR_len]
  refine VRs.of ?_ fun j x V h1 h2 => ?_
  · rw [List.length_take, List.length_take]
    simp at hf
    omega
  · rw [List.getElem?_take] at h1 h2
    split at h1
    · rename_i hj
      rw [if_pos hj] at h2
      obtain ⟨U, hU, hv⟩ := hc.get j x h1
      simp at hU
      rw [hU] at h2
      cases h2
      exact hv
    · cases h1
theorem take_one {β : Id → CA} {D : Id → Prop} {rs : List Rg} {l : List AV} {n : Nat} (hc : Cells β D (flat encR rs).toArray 0 l) (hn : n * 2 ≤ l.length) : ∀ a ∈ rs.take n, Go.Proofs.Ytijnjnncgkhabaa.oneR a := by
  intro a ha
  have hv := take_vrs hc hn
  have h1 : ∀ V ∈ flat encR (rs.take n), V.oneCell' = true := fun V hV => by
    obtain ⟨j, hj⟩ := List.getElem?_of_mem hV
    obtain ⟨x, hx, hr⟩ := hv.back j V hj
    exact hr.one (hc.one x (List.mem_of_mem_take (List.mem_of_getElem? hx)))
  exact ⟨h1 a.1 (List.mem_flatMap.2 ⟨a, ha, by simp [encR]⟩), h1 a.2 (List.mem_flatMap.2 ⟨a, ha, by simp [encR]⟩)⟩
end Ev
end Go.Proofs.Ytijnjnncgkhabaa
