/- DERIVED. A slice at the head of a row, of elements of any kind; append of one element. -/
import Derived.Test.YtebiebcpdjipjaaRng
namespace Go.Proofs.Ytebiebcpdjipjaa
open Go.RowKit

section
variable {α : Type} {enc : α → List Value} {k : Nat} {P : Program} {e dT : TypeId} {i : TypeInfo} {w : World}

/-- A slice value that is nil, or lies at the head of the row og, and reads as xs. -/
def SlG (enc : α → List Value) (E : TypeId) (w : World) (v : Value) (og : Option Nat) (xs : List α) : Prop :=
  (v = .slice none 0 0 ∧ xs = [] ∧ og = none) ∨
  ∃ g ys, og = some g ∧ v = .slice (some ⟨g, 0, none⟩) xs.length (xs.length + ys.length) ∧ Row enc w E g (xs ++ ys) ∧ xs.length + ys.length ≤ 9223372036854775807

theorem SlG.nil (w : World) : SlG enc e w (.slice none 0 0) none [] := .inl ⟨rfl, rfl, rfl⟩
theorem SlG.lt {v : Value} {og : Option Nat} {xs : List α} (h : SlG enc e w v og xs) : ∀ g, og = some g → g < w.heap.size := by
  rcases h with ⟨_, _, rfl⟩ | ⟨g, ys, rfl, _, h, _⟩
  · intro g hg; cases hg
  · intro g' hg
    cases hg
    exact heap_lt h
theorem SlG.keeps {F : Nat → Prop} {w' : World} {v : Value} {og : Option Nat} {xs : List α} (h : SlG enc e w v og xs) (hu : Upd F w w') (hF : ∀ g, og = some g → ¬ F g) : SlG enc e w' v og xs := by
  rcases h with h | ⟨g, ys, rfl, hv, h, hl⟩
  · exact .inl h
  · exact .inr ⟨g, ys, rfl, hv, hu.keeps h (hF g rfl), hl⟩
theorem SlG.below {w' : World} {v : Value} {og : Option Nat} {xs : List α} (h : SlG enc e w v og xs) (hu : Below w.heap.size w w') : SlG enc e w' v og xs :=
  h.keeps (Upd.below hu) (fun g hg => by have := h.lt g hg; omega)
theorem SlG.drewN {v : Value} {og : Option Nat} {xs : List α} (h : SlG enc e w v og xs) (n : Nat) : SlG enc e (w.drewN n) v og xs := h
theorem SlG.shape {v : Value} {og : Option Nat} {xs : List α} (h : SlG enc e w v og xs) : ∃ oa cap, v = .slice oa xs.length cap ∧ xs.length ≤ cap ∧ cap ≤ 9223372036854775807 := by
  rcases h with ⟨rfl, rfl, _⟩ | ⟨g, ys, _, rfl, _, hl⟩
  · exact ⟨none, 0, rfl, Nat.le_refl _, by omega⟩
  · exact ⟨_, _, rfl, by omega, hl⟩

/-- append of one element: in place, or onto a new row. -/
theorem wpList_push (hk : ∀ a, (enc a).length = k) (h1 : ∀ a, ∀ v ∈ enc a, v.oneCell' = true) (hu : P.underlying dT = some (.slice e)) (hi : P.info? e = some i) (hz : i.size = k) {z : Value} (hzz : i.zero = some z) {a0 : α} (ha0 : z.cells.toList = enc a0)
    {ops : Array Oper} {rest : List Oper} {o : Oper} {a : Act} {Q : Exit → Act → World → Prop} (hgd : o.guard = none) (d s : Operand)
    (ho : o.op = .call { callee := .builtin .append, args := #[d, s], argTypes := #[dT, dT] }) {v : Value} {og : Option Nat} {xs : List α} (h : SlG enc e w v og xs) {h' : Nat} {r : α} {E' : TypeId} (hs : Row enc w E' h' [r])
    (hd : a.eval d = v) {soff c : Nat} (hsv : a.eval s = .slice (some ⟨h', soff, none⟩) 1 c) (hso : soff = 0) (hb : (xs.length + 1) * i.bytes ≤ 140737488355328) (hb1 : xs.length < 9223372036854775807)
    (hK : ∀ W v' og', SlG enc e W v' og' (xs ++ [r]) → (og' = og ∨ ∃ g, og' = some g ∧ w.heap.size ≤ g) → Upd (fun j => og = some j) w W → w.heap.size ≤ W.heap.size → wpList P ops Q rest (a.put o.dst v') W) : wpList P ops Q (o :: rest) a w := by
  subst hso
  rcases h with ⟨rfl, rfl, rfl⟩ | ⟨g, ys, rfl, rfl, hr, hl⟩
  · refine wpList_append_nil hk hu hi hz hzz ha0 hgd d s ho hs 0 hd hsv (by omega) (by decide) (by simp) (by omega) (by simpa using hb) ?_
    intro W cap hW hc1 hc2 hB hsz
    refine hK W _ (some w.heap.size) (.inr ⟨w.heap.size, List.replicate (cap - 1) a0, rfl, ?_, by simpa using hW, ?_⟩) (.inr ⟨_, rfl, Nat.le_refl _⟩) ?_ hB.size
    · simp
      omega
    · simp
      omega
    · exact (Upd.below hB).mono (fun j hj x => by omega)
  · cases ys with
    | nil =>
      refine wpList_append_fresh hk hu hi hz hzz ha0 hgd d s ho hr hs 0 0 hd hsv (by omega) (by omega) (by simp) (by simp) (by simp) (by simp) (by omega) (by simpa using hb) ?_
      intro W cap hW hc1 hc2 hB hsz
      refine hK W _ (some w.heap.size) (.inr ⟨w.heap.size, List.replicate (cap - (xs.length + 1)) a0, rfl, ?_, by simpa using hW, ?_⟩) (.inr ⟨_, rfl, Nat.le_refl _⟩) ?_ hB.size
      · simp
        omega
      · simp
        omega
      · exact (Upd.below hB).mono (fun j hj x => by omega)
    | cons y ys =>
      refine wpList_append_at hk h1 hu hi hz hgd d s ho hr hs 0 0 hd hsv (by omega) (by omega) (by simp) (by simp; try omega) (by simp) ?_
      intro W hW hU
      have e1 : splice (xs ++ y :: ys) (0 + xs.length) (([r] : List α).drop 0 |>.take 1) = (xs ++ [r]) ++ ys := by
        have := splice_end xs (y :: ys) [r] (by simp)
        simpa using this
      rw [e1] at hW
      refine hK W _ (some g) (.inr ⟨g, ys, rfl, ?_, hW, ?_⟩) (.inl rfl) (hU.mono (fun j _ x => by rw [x])) hU.size
      · simp
        omega
      · simp at hl ⊢
        omega
end
end Go.Proofs.Ytebiebcpdjipjaa
