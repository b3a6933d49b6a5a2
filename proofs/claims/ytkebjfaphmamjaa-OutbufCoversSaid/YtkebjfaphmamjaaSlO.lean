/- DERIVED. A slice of one's own that may begin inside its row: what is left of it from a place on; append onto it. -/
import Derived.Test.YtkebjfaphmamjaaHeld
namespace Go.Proofs.Ytkebjfaphmamjaa
open Go.RowKit

section
variable {α : Type} {enc : α → List Value}
/-- A slice value that is empty, or lies in the row og, and reads as xs. -/
def SlO (enc : α → List Value) (k : Nat) (E : TypeId) (w : World) (v : Value) (og : Option Nat) (xs : List α) : Prop :=
  (∃ oa, v = .slice oa 0 0 ∧ xs = [] ∧ og = none) ∨
  ∃ g pre ys, og = some g ∧ v = .slice (some ⟨g, List.length pre * k, none⟩) xs.length (xs.length + ys.length) ∧ Row enc w E g (pre ++ xs ++ ys) ∧ xs.length + ys.length ≤ 9223372036854775807
variable {k : Nat}
theorem SlO.nil (E : TypeId) (w : World) (oa : Option Addr) : SlO enc k E w (.slice oa 0 0) none ([] : List α) := .inl ⟨oa, rfl, rfl, rfl⟩
theorem SlO.lt {E : TypeId} {w : World} {v : Value} {og : Option Nat} {xs : List α} (h : SlO enc k E w v og xs) : ∀ g, og = some g → g < w.heap.size := by
  rcases h with ⟨_, _, _, rfl⟩ | ⟨g, _, ys, rfl, _, h, _⟩
  · intro g hg; cases hg
  · intro g' hg
    cases hg
    exact heap_lt h
theorem SlO.keeps {E : TypeId} {F : Nat → Prop} {w w' : World} {v : Value} {og : Option Nat} {xs : List α} (h : SlO enc k E w v og xs) (hu : Upd F w w') (hF : ∀ g, og = some g → ¬ F g) : SlO enc k E w' v og xs := by
  rcases h with h | ⟨g, pre, ys, rfl, hv, h, hl⟩
  · exact .inl h
  · exact .inr ⟨g, pre, ys, rfl, hv, hu.keeps h (hF g rfl), hl⟩
theorem SlO.below {E : TypeId} {w w' : World} {v : Value} {og : Option Nat} {xs : List α} (h : SlO enc k E w v og xs) (hu : Below w.heap.size w w') : SlO enc k E w' v og xs :=
  h.keeps (Upd.below hu) (fun g hg => by have := h.lt g hg; omega)
theorem SlO.shape {E : TypeId} {w : World} {v : Value} {og : Option Nat} {xs : List α} (h : SlO enc k E w v og xs) : ∃ oa cap, v = .slice oa xs.length cap ∧ xs.length ≤ cap ∧ cap ≤ 9223372036854775807 := by
  rcases h with ⟨oa, rfl, rfl, _⟩ | ⟨g, pre, ys, _, rfl, _, hl⟩
  · exact ⟨oa, 0, rfl, Nat.le_refl _, by omega⟩
  · exact ⟨_, _, rfl, by omega, hl⟩
theorem SlO.apart {E T : TypeId} {w : World} {v : Value} {og : Option Nat} {xs : List α} (h : SlO enc k E w v og xs) {b : Nat} {cs : Array Value} {z : Nat × Nat} (hb : w.heap[b]? = some (.cells cs T z)) (hT : E ≠ T) : og ≠ some b := by
  rintro rfl
  rcases h with ⟨_, _, _, h1⟩ | ⟨g, _, zs, h1, _, hr, _⟩
  · cases h1
  · cases h1
    unfold Row at hr
    rw [hb] at hr
    simp at hr
    exact hT hr.2.1.symm
theorem SlO.vw {E : TypeId} {w : World} {v : Value} {og : Option Nat} {xs : List α} (hk : ∀ a, (enc a).length = k) (h : SlO enc k E w v og xs) : Vw enc w w.heap.size v xs := by
  rcases h with ⟨oa, rfl, rfl, rfl⟩ | ⟨g, pre, ys, rfl, rfl, hr, hl⟩
  · exact Vw.nil _ _ _ _ (by omega)
  · refine ⟨_, _, rfl, by omega, hl, .inr ⟨g, _, rfl, heap_lt hr, ?_⟩⟩
    intro j u hj
    rw [hr.cell, List.append_assoc, flat_append, List.getElem?_append_right (by rw [flat_length hk]; omega), flat_length hk, Nat.add_sub_cancel_left]
    rw [flat_append, List.getElem?_append_left (by rw [List.getElem?_eq_some_iff] at hj; exact hj.1)]
    exact hj
/-- What is left of it. -/
theorem SlO.tail {E : TypeId} {w : World} {oa : Option Addr} {len cap n : Nat} {og : Option Nat} {xs : List α} (h : SlO enc k E w (.slice oa len cap) og xs) (hn : n ≤ len) : ∃ og', SlO enc k E w (tailV oa k len cap n) og' (xs.drop n) ∧ (og' = og ∨ og' = none) := by
  rcases h with ⟨oa', h1, rfl, rfl⟩ | ⟨g, pre, ys, rfl, h1, hr, hl⟩
  · cases h1
    refine ⟨none, .inl ⟨_, by rw [tailV]; simp; rfl, by simp, rfl⟩, .inl rfl⟩
  · cases h1
    by_cases hc : xs.length + ys.length = n
    · refine ⟨none, .inl ⟨some ⟨g, pre.length * k, none⟩, ?_, List.drop_of_length_le (by omega), rfl⟩, .inr rfl⟩
      rw [tailV, if_pos hc, show xs.length - n = 0 by omega, show xs.length + ys.length - n = 0 by omega]
    · refine ⟨some g, .inr ⟨g, pre ++ xs.take n, ys, rfl, ?_, ?_, ?_⟩, .inl rfl⟩
      · have e1 : (pre ++ xs.take n).length = pre.length + n := by rw [List.length_append, List.length_take]; omega
        rw [tailV, if_neg hc, e1, List.length_drop]
        simp only [Option.map_some, add_lit', Nat.add_mul]
        congr 1
        omega
      · rw [List.append_assoc, List.append_assoc, ← List.append_assoc (xs.take n), List.take_append_drop, ← List.append_assoc]
        exact hr
      · rw [List.length_drop]
        omega
end
section
variable {α : Type} {enc : α → List Value} {k : Nat} {P : Program} {w : World} {e dT : TypeId} {i : TypeInfo}
theorem run_push_none' (hu : P.underlying dT = some (.slice e)) (hi : P.info? e = some i) (ty : TypeId) (o1 : Option Addr) (n1 c1 : Nat) (h1 : n1 ≤ c1) (oa : Option Addr) (c : Nat) :
    (Builtin.append_ #[dT, dT] ty #[.slice o1 n1 c1, .slice oa 0 c]).run P w = .ok (.slice o1 n1 c1) w := by
  have hl : ∀ a : Addr, (loadCells a 0).run P w = .ok #[] w := fun a => by simp [loadCells, loadCellsFrom]
  cases o1 <;> cases oa <;> simp [Builtin.append_, run_underlying hu, sizeOf, typeInfo, hi, Builtin.lenOf, Builtin.firstCells, storeCells, hl, h1]
/-- append(s, x...), s of one's own. -/
theorem run_pushO (hk : ∀ a, (enc a).length = k) (h1 : ∀ a, ∀ v ∈ enc a, v.oneCell' = true) (hu : P.underlying dT = some (.slice e)) (hi : P.info? e = some i) (hz : i.size = k) {z : Value} (hzz : i.zero = some z) {a0 : α} (ha0 : z.cells.toList = enc a0) (ty : TypeId)
    {v u : Value} {og : Option Nat} {xs zs : List α} {B : Nat} (h : SlO enc k e w v og xs) (hs : Vw enc w B u zs) (h63 : xs.length + zs.length ≤ 9223372036854775807) (hb : (xs.length + zs.length) * i.bytes ≤ 140737488355328) :
    ∃ W v' og', (Builtin.append_ #[dT, dT] ty #[v, u]).run P w = .ok v' W ∧ SlO enc k e W v' og' (xs ++ zs) ∧ (og' = og ∨ ∃ g, og' = some g ∧ w.heap.size ≤ g) ∧ Upd (fun j => og = some j) w W := by
  rcases Nat.eq_zero_or_pos zs.length with h0 | h0
  · obtain ⟨oa, cap, rfl, _, _⟩ := hs.shape
    obtain ⟨o1, c1, rfl, hc1, _⟩ := h.shape
    have e0 := List.eq_nil_of_length_eq_zero h0
    subst e0
    exact ⟨w, _, og, run_push_none' hu hi ty o1 _ c1 hc1 oa cap, by rw [List.append_nil]; exact h, .inl rfl, Upd.refl _ _⟩
  · obtain ⟨ad, c, rfl, hsrc⟩ := hs.src h0
    have fresh : ∀ (m cap : Nat), m = xs.length + zs.length → m ≤ cap → cap ≤ 9223372036854775807 → ∀ cs : Array Value, cs.toList = flat enc (xs ++ zs ++ List.replicate (cap - m) a0) →
        SlO enc k e (w.drew.alloc (.cells cs e)) (.slice (some ⟨w.heap.size, 0, none⟩) m cap) (some w.heap.size) (xs ++ zs) := by
      intro m cap hm hc hc2 cs hcs
      have hl : (xs ++ zs).length = m := by rw [List.length_append, hm]
      refine .inr ⟨w.heap.size, [], List.replicate (cap - m) a0, rfl, ?_, ?_, ?_⟩
      · rw [hl, List.length_replicate, show m + (cap - m) = cap by omega]
        simp
      · unfold Row
        refine (alloc_at w.drew _).trans ?_
        rw [List.nil_append, ← hcs]
      · rw [hl, List.length_replicate]
        omega
    have hup : ∀ o : Obj, Upd (fun j => og = some j) w (w.drew.alloc o) := fun o => (Upd.below ((Below.refl w.heap.size w).drew.alloc (Nat.le_refl _) _)).mono (fun j hj x => by omega)
    rcases h with ⟨oa, rfl, rfl, rfl⟩ | ⟨g, pre, ys, rfl, rfl, hr, hl⟩
    · simp only [List.length_nil, Nat.zero_add] at h63 hb
      cases oa with
      | none =>
        have hrun := run_append_nil (P := P) w dT ty e i z hu hi hzz ad zs.length c (flat enc zs) (by rw [flat_length hk, hz]) hsrc h0 (by omega) (by omega)
        have hc1 := grownCap_ge w zs.length 0 e
        have hc2 := grownCap_le_maxLen w zs.length 0 e (by unfold maxLen; omega)
        refine ⟨_, _, some w.heap.size, hrun, fresh _ _ (by simp) (by omega) (by unfold maxLen at hc2; omega) _ ?_, .inr ⟨_, rfl, Nat.le_refl _⟩, hup _⟩
        rw [List.nil_append, flat_append, ← flat_replicate_zero (hk a0) ha0]
        simp
      | some a1 =>
        have hrun := run_append_grow (P := P) w dT ty e i z hu hi hzz a1 0 0 [] (by simp) (by intro j v hv; simp at hv) ad zs.length c (flat enc zs) (by rw [flat_length hk, hz]) hsrc (by omega) (by omega) (growslice_fits (by omega) (by rw [Nat.zero_add]; exact hb))
        have hc1 := grownCap_ge w (0 + zs.length) 0 e
        have hc2 := grownCap_le_maxLen w (0 + zs.length) 0 e (by unfold maxLen; omega)
        refine ⟨_, _, some w.heap.size, hrun, fresh _ _ (by simp) (by omega) (by unfold maxLen at hc2; omega) _ ?_, .inr ⟨_, rfl, Nat.le_refl _⟩, hup _⟩
        rw [List.nil_append, flat_append, ← flat_replicate_zero (hk a0) ha0]
        simp
    · by_cases hroom : zs.length ≤ ys.length
      · have hf := run_firstCells_some (P := P) w k zs.length ad zs.length c (flat enc zs) (flat_length hk zs) hsrc
        have hst := run_store_row (P := P) w hk h1 hr (pre ++ xs).length zs (by simp; omega)
        have ha : (⟨g, pre.length * k, none⟩ : Addr).add (xs.length * k) = ⟨g, (pre ++ xs).length * k, none⟩ := by rw [add_lit', List.length_append, Nat.add_mul]
        have hro : xs.length + zs.length ≤ xs.length + ys.length := by omega
        have e1 : splice (pre ++ xs ++ ys) (pre ++ xs).length zs = (pre ++ (xs ++ zs)) ++ ys.drop zs.length := by
          rw [splice_end (pre ++ xs) ys zs hroom]
          simp
        refine ⟨setR enc w g (splice (pre ++ xs ++ ys) (pre ++ xs).length zs), .slice (some ⟨g, pre.length * k, none⟩) (xs.length + zs.length) (xs.length + ys.length), some g, ?_, .inr ⟨g, pre, ys.drop zs.length, rfl, ?_, ?_, ?_⟩, .inl rfl, ?_⟩
        · generalize setR enc w g (splice (pre ++ xs ++ ys) (pre ++ xs).length zs) = WW at hst
          generalize (pre ++ xs).length = q at hst ha
          simp [Builtin.append_, run_underlying hu, sizeOf, typeInfo, hi, hz, Builtin.lenOf, hf, ha, hst, hroom]
        · simp
          omega
        · rw [← e1]
          exact hr.set _
        · simp
          omega
        · exact (setR_upd w g _).mono (fun j _ x => by rw [x])
      · have hrun := run_append_grow (P := P) w dT ty e i z hu hi hzz ⟨g, pre.length * k, none⟩ xs.length (xs.length + ys.length) (flat enc xs) (by rw [flat_length hk, hz])
          (by
            have := hr.src hk pre.length xs.length (by rw [List.length_append, List.length_append]; omega)
            rw [List.append_assoc, List.drop_left, List.take_left] at this
            exact this) ad zs.length c (flat enc zs) (by rw [flat_length hk, hz]) hsrc (by omega) (by omega) (growslice_fits (by omega) hb)
        have hc1 := grownCap_ge w (xs.length + zs.length) (xs.length + ys.length) e
        have hc2 := grownCap_le_maxLen w (xs.length + zs.length) (xs.length + ys.length) e (by unfold maxLen; omega)
        refine ⟨_, _, some w.heap.size, hrun, fresh _ _ rfl (by omega) (by unfold maxLen at hc2; omega) _ ?_, .inr ⟨_, rfl, Nat.le_refl _⟩, hup _⟩
        rw [flat_append, flat_append, ← flat_replicate_zero (hk a0) ha0]
        simp
theorem wpList_pushO (hk : ∀ a, (enc a).length = k) (h1 : ∀ a, ∀ v ∈ enc a, v.oneCell' = true) (hu : P.underlying dT = some (.slice e)) (hi : P.info? e = some i) (hz : i.size = k) {z : Value} (hzz : i.zero = some z) {a0 : α} (ha0 : z.cells.toList = enc a0)
    {ops : Array Oper} {rest : List Oper} {o : Oper} {a : Act} {Q : Exit → Act → World → Prop} (hgd : o.guard = none) (d s : Operand)
    (ho : o.op = .call { callee := .builtin .append, args := #[d, s], argTypes := #[dT, dT] }) {v u : Value} {og : Option Nat} {xs : List α} (h : SlO enc k e w v og xs) {B : Nat} {zs : List α} (hs : Vw enc w B u zs)
    (hd : a.eval d = v) (hsv : a.eval s = u) (hb : (xs.length + zs.length) * i.bytes ≤ 140737488355328) (hb1 : xs.length + zs.length ≤ 9223372036854775807)
    (hK : ∀ W v' og', SlO enc k e W v' og' (xs ++ zs) → (og' = og ∨ ∃ g, og' = some g ∧ w.heap.size ≤ g) → Upd (fun j => og = some j) w W → wpList P ops Q rest (a.put o.dst v') W) : wpList P ops Q (o :: rest) a w := by
  obtain ⟨W, v', og', h2, h3, h4, h5⟩ := run_pushO hk h1 hu hi hz hzz ha0 o.type h hs hb1 hb
  exact Lib.wpList_append_run w hgd d s dT dT ho _ _ hd hsv _ _ h2 (hK W v' og' h3 h4 h5)
theorem step_pushO (hk : ∀ a, (enc a).length = k) (h1 : ∀ a, ∀ v ∈ enc a, v.oneCell' = true) (hu : P.underlying dT = some (.slice e)) (hi : P.info? e = some i) (hz : i.size = k) {z : Value} (hzz : i.zero = some z) {a0 : α} (ha0 : z.cells.toList = enc a0)
    {ops : Array Oper} {o : Oper} {a : Act} {K : Act → World → Prop} {Q : Exit → Act → World → Prop} {F : Prop} (hgd : o.guard = none) (d s : Operand)
    (ho : o.op = .call { callee := .builtin .append, args := #[d, s], argTypes := #[dT, dT] }) {v u : Value} {og : Option Nat} {xs : List α} (h : SlO enc k e w v og xs) {B : Nat} {zs : List α} (hs : Vw enc w B u zs)
    (hd : a.eval d = v) (hsv : a.eval s = u) (hb : (xs.length + zs.length) * i.bytes ≤ 140737488355328) (hb1 : xs.length + zs.length ≤ 9223372036854775807)
    (hK : ∀ W v' og', SlO enc k e W v' og' (xs ++ zs) → (og' = og ∨ ∃ g, og' = some g ∧ w.heap.size ≤ g) → Upd (fun j => og = some j) w W → K (a.put o.dst v') W) : if Region.wanted o (yielded ops a.tmps) = true then Oper.wp P o a w K Q else F := by
  obtain ⟨W, v', og', h2, h3, h4, h5⟩ := run_pushO hk h1 hu hi hz hzz ha0 o.type h hs hb1 hb
  exact step_append_run w hgd d s dT dT ho _ _ hd hsv h2 (hK W v' og' h3 h4 h5)
end
end Go.Proofs.Ytkebjfaphmamjaa
