/- DERIVED. Bytes that are only read, as a string; the front of a slice (narthexkeep's Cut). -/
import Derived.Test.YtebiebcpdjipjaaVwa
import Derived.Laws.BytesArg
import Derived.Deep.DeepCutAuto
namespace Go.Proofs.Ytebiebcpdjipjaa
open Go.RowKit

def strB (l : List Nat) : ByteArray := strOfNums (l.map (fun n : Nat => (n : Int)))
/-- What a slice reads as. -/
def Rds (w : World) (v : Value) (xs : List Nat) : Prop :=
  ∃ oa cap, v = .slice oa xs.length cap ∧ xs.length ≤ cap ∧ cap ≤ 9223372036854775807 ∧ (xs = [] ∨ ∃ b off, oa = some ⟨b, off, none⟩ ∧ ∀ (j x : Nat), xs[j]? = some x → w.cell? ⟨b, off + j, none⟩ = some (.int .u8 x))
theorem VwA.rds {fp : Nat → Prop} {w : World} {v : Value} {xs : List Nat} (h : VwA encB fp w v xs) : Rds w v xs := by
  obtain ⟨oa, cap, h1, h2, h3, h4⟩ := h
  refine ⟨oa, cap, h1, h2, h3, ?_⟩
  rcases h4 with h4 | ⟨b, off, h4, h5, h6, h7⟩
  · exact .inl h4
  · refine .inr ⟨b, off, h4, fun j x hx => h7 j _ ?_⟩
    rw [flatB, List.getElem?_map, hx]
    rfl
theorem VwA.vw {α : Type} {enc : α → List Value} {fp : Nat → Prop} {w : World} {v : Value} {xs : List α} (h : VwA enc fp w v xs) : Vw enc w w.heap.size v xs := by
  obtain ⟨oa, cap, h1, h2, h3, h4⟩ := h
  refine ⟨oa, cap, h1, h2, h3, ?_⟩
  rcases h4 with h4 | ⟨b, off, h4, h5, h6, h7⟩
  · exact .inl h4
  · exact .inr ⟨b, off, h4, h5, h7⟩
theorem Vw.rds {B : Nat} {w : World} {v : Value} {xs : List Nat} (h : Vw encB w B v xs) : Rds w v xs := by
  obtain ⟨oa, cap, h1, h2, h3, h4⟩ := h
  refine ⟨oa, cap, h1, h2, h3, ?_⟩
  rcases h4 with h4 | ⟨b, off, h4, h5, h7⟩
  · exact .inl h4
  · refine .inr ⟨b, off, h4, fun j x hx => h7 j _ ?_⟩
    rw [flatB, List.getElem?_map, hx]
    rfl
theorem Rds.str {P : Program} {w : World} {v : Value} {xs : List Nat} (h : Rds w v xs) {src dst e : TypeId} (hs : P.underlying src = some (.slice e)) (he : P.underlying e = some (.int .u8)) (hd : P.underlying dst = some .string) :
    (convert src dst v).run P w = .ok (.string (strB xs)) w := by
  obtain ⟨oa, cap, rfl, _, _, h4⟩ := h
  rcases h4 with rfl | ⟨b, off, rfl, h7⟩
  · cases oa with
    | none => exact run_convert_bytes_nil w src e hs he _ _ dst hd
    | some a =>
      rw [run_convert_bytes_string w src dst e _ _ cap hs he hd]
      have hl : (loadCells a 0).run P w = .ok #[] w := by simp [loadCells, loadCellsFrom]
      rw [List.length_nil, run_bytesToString w a 0 cap [] (by simpa using hl)]
      rfl
  · refine run_convert_bytes_arg w src e hs he b off xs.length cap (xs.map (fun n : Nat => (n : Int))) (by simp) ?_ dst hd
    intro i hi
    have := h7 i xs[i] (List.getElem?_eq_getElem hi)
    rw [this]
    simp [List.getD, hi]

theorem Vw.front {α : Type} {enc : α → List Value} {k : Nat} (hk : ∀ a, (enc a).length = k) {w : World} {B : Nat} {oa : Option Addr} {len cap : Nat} {xs : List α} (h : Vw enc w B (.slice oa len cap) xs) (n : Nat) (hn : n ≤ len) : Vw enc w B (.slice oa n cap) (xs.take n) := by
  obtain ⟨oa', cap', h1, h2, h3, h4⟩ := h
  cases h1
  have hl : (xs.take n).length = n := by rw [List.length_take]; omega
  refine ⟨oa, cap, by rw [hl], by rw [hl]; omega, h3, ?_⟩
  rcases h4 with rfl | ⟨b, off, rfl, h5, h6⟩
  · left
    simp
  · refine .inr ⟨b, off, rfl, h5, fun j u hj => h6 j u ?_⟩
    rw [← flat_take hk] at hj
    rw [List.getElem?_take] at hj
    split at hj
    · exact hj
    · cases hj
/-- Cut: no more than n. -/
theorem kcut_v {w : World} {B : Nat} {v : Value} {xs : List Nat} (h : Vw encB w B v xs) (n : Nat) (_hn : n ≤ 9223372036854775807) :
    ∃ oa len cap, v = .slice oa len cap ∧ len = xs.length ∧ len ≤ cap ∧ cap ≤ 9223372036854775807 ∧ Vw encB w B (.slice oa (min len n) cap) (xs.take n) := by
  obtain ⟨oa, cap, rfl, h1, h2⟩ := h.shape
  refine ⟨oa, _, cap, rfl, rfl, h1, h2, ?_⟩
  have := h.front encB_len (min xs.length n) (Nat.min_le_left _ _)
  rw [show xs.take (min xs.length n) = xs.take n by
    rcases Nat.le_total n xs.length with h' | h'
    · rw [Nat.min_eq_right h']
    · rw [Nat.min_eq_left h', List.take_length, List.take_of_length_le h']] at this
  exact this
end Go.Proofs.Ytebiebcpdjipjaa
