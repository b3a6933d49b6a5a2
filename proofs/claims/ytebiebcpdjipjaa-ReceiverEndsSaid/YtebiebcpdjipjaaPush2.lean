/- DERIVED. append of elements that lie anywhere, onto a slice of one's own: in place, or onto a new row; as a run, in a list, at a step of a region that draws. -/
import Derived.Test.YtebiebcpdjipjaaPush
import Derived.Deep.RegionLaw
namespace Go.Proofs.Ytebiebcpdjipjaa
open Go.RowKit

section
variable {α : Type}
/-- Elements that lie from an address on. -/
def Src (enc : α → List Value) (w : World) (ad : Addr) (zs : List α) : Prop := ∀ j v, (flat enc zs)[j]? = some v → w.cell? (ad.add j) = some v
variable {enc : α → List Value} {k : Nat}
theorem Src.row {w : World} {E : TypeId} {g : Nat} {rs : List α} (h : Row enc w E g rs) (hk : ∀ a, (enc a).length = k) (q n : Nat) (hq : q + n ≤ rs.length) : Src enc w ⟨g, q * k, none⟩ ((rs.drop q).take n) := h.src hk q n hq
theorem Src.block {w : World} {g : Nat} {zs : List α} {cs : Array Value} {t : TypeId} {z : Nat × Nat} (h : w.heap[g]? = some (.cells cs t z)) (hl : cs.toList = flat enc zs) : Src enc w ⟨g, 0, none⟩ zs := by
  intro j v hv
  rw [add_lit', Nat.zero_add, cell_at h]
  rw [← hl] at hv
  simpa using hv

theorem SlG.alloc {E : TypeId} {w : World} {v : Value} {og : Option Nat} {xs : List α} (h : SlG enc E w v og xs) (o : Obj) : SlG enc E (w.alloc o) v og xs := h.below ((Below.refl _ _).alloc (Nat.le_refl _) _)
theorem SlG.drew {E : TypeId} {w : World} {v : Value} {og : Option Nat} {xs : List α} (h : SlG enc E w v og xs) : SlG enc E w.drew v og xs := h.below (Below.refl _ _).drew
variable {P : Program} {w : World} {e dT : TypeId} {i : TypeInfo}
theorem run_push (hk : ∀ a, (enc a).length = k) (h1 : ∀ a, ∀ v ∈ enc a, v.oneCell' = true) (hu : P.underlying dT = some (.slice e)) (hi : P.info? e = some i) (hz : i.size = k) {z : Value} (hzz : i.zero = some z) {a0 : α} (ha0 : z.cells.toList = enc a0) (ty : TypeId)
    {v : Value} {og : Option Nat} {xs : List α} (h : SlG enc e w v og xs) {ad : Addr} {zs : List α} (hs : Src enc w ad zs) (c : Nat) (hm : 0 < zs.length) (h63 : xs.length + zs.length ≤ 9223372036854775807) (hb : (xs.length + zs.length) * i.bytes ≤ 140737488355328) :
    ∃ W v' og', (Builtin.append_ #[dT, dT] ty #[v, .slice (some ad) zs.length c]).run P w = .ok v' W ∧ SlG enc e W v' og' (xs ++ zs) ∧ (og' = og ∨ ∃ g, og' = some g ∧ w.heap.size ≤ g) ∧ Upd (fun j => og = some j) w W := by
  rcases h with ⟨rfl, rfl, rfl⟩ | ⟨g, ys, rfl, rfl, hr, hl⟩
  · simp only [List.length_nil, Nat.zero_add] at h63 hb
    have hrun := run_append_nil (P := P) w dT ty e i z hu hi hzz ad zs.length c (flat enc zs) (by rw [flat_length hk, hz]) hs hm (by omega) (by omega)
    have hc1 := grownCap_ge w zs.length 0 e
    have hc2 := grownCap_le_maxLen w zs.length 0 e (by unfold maxLen; omega)
    refine ⟨_, _, some w.heap.size, hrun, .inr ⟨w.heap.size, List.replicate (grownCap w zs.length 0 e - zs.length) a0, rfl, ?_, ?_, ?_⟩, .inr ⟨_, rfl, Nat.le_refl _⟩, ?_⟩
    · simp
      omega
    · unfold Row
      have := alloc_at w.drew (.cells ((flat enc zs).toArray ++ Builtin.zeroCells z.cells (grownCap w zs.length 0 e - zs.length)) e)
      refine Eq.trans this ?_
      congr 2
      rw [List.nil_append, flat_append, ← flat_replicate_zero (hk a0) ha0]
      simp
    · simp
      unfold maxLen at hc2
      omega
    · exact (Upd.below ((Below.refl w.heap.size w).drew.alloc (Nat.le_refl _) _)).mono (fun j hj x => by omega)
  · by_cases hroom : zs.length ≤ ys.length
    · have hf := run_firstCells_some (P := P) w k zs.length ad zs.length c (flat enc zs) (flat_length hk zs) hs
      have hst := run_store_row (P := P) w hk h1 hr xs.length zs (by rw [List.length_append]; omega)
      have ha : (⟨g, 0, none⟩ : Addr).add (xs.length * k) = ⟨g, xs.length * k, none⟩ := by rw [add_lit', Nat.zero_add]
      have hro : xs.length + zs.length ≤ xs.length + ys.length := by omega
      have e1 : splice (xs ++ ys) xs.length zs = (xs ++ zs) ++ ys.drop zs.length := by
        rw [splice_end xs ys zs hroom, List.append_assoc]
      refine ⟨setR enc w g (splice (xs ++ ys) xs.length zs), .slice (some ⟨g, 0, none⟩) (xs.length + zs.length) (xs.length + ys.length), some g, ?_, .inr ⟨g, ys.drop zs.length, rfl, ?_, ?_, ?_⟩, .inl rfl, ?_⟩
      · simp [Builtin.append_, run_underlying hu, sizeOf, typeInfo, hi, hz, Builtin.lenOf, hf, ha, hst, hroom]
      · simp
        omega
      · rw [← e1]
        exact hr.set _
      · simp
        omega
      · exact (setR_upd w g _).mono (fun j _ x => by rw [x])
    · have hrun := run_append_grow (P := P) w dT ty e i z hu hi hzz ⟨g, 0, none⟩ xs.length (xs.length + ys.length) (flat enc xs) (by rw [flat_length hk, hz])
        (by
          have := hr.src hk 0 xs.length (by rw [List.length_append]; omega)
          simpa using this) ad zs.length c (flat enc zs) (by rw [flat_length hk, hz]) hs (by omega) (by omega) (growslice_fits (by omega) hb)
      have hc1 := grownCap_ge w (xs.length + zs.length) (xs.length + ys.length) e
      have hc2 := grownCap_le_maxLen w (xs.length + zs.length) (xs.length + ys.length) e (by unfold maxLen; omega)
      refine ⟨_, _, some w.heap.size, hrun, .inr ⟨w.heap.size, List.replicate (grownCap w (xs.length + zs.length) (xs.length + ys.length) e - (xs.length + zs.length)) a0, rfl, ?_, ?_, ?_⟩, .inr ⟨_, rfl, Nat.le_refl _⟩, ?_⟩
      · simp
        omega
      · unfold Row
        refine Eq.trans (alloc_at w.drew _) ?_
        congr 2
        rw [flat_append, flat_append, ← flat_replicate_zero (hk a0) ha0]
        simp
      · simp
        unfold maxLen at hc2
        omega
      · exact (Upd.below ((Below.refl w.heap.size w).drew.alloc (Nat.le_refl _) _)).mono (fun j hj x => by omega)
theorem run_push_none (hu : P.underlying dT = some (.slice e)) (hi : P.info? e = some i) (ty : TypeId) {v : Value} {og : Option Nat} {xs : List α} (h : SlG enc e w v og xs) (oa : Option Addr) (c : Nat) (_hk : ∀ a, (enc a).length = k) :
    (Builtin.append_ #[dT, dT] ty #[v, .slice oa 0 c]).run P w = .ok v w := by
  have hl : ∀ a : Addr, (loadCells a 0).run P w = .ok #[] w := fun a => by simp [loadCells, loadCellsFrom]
  rcases h with ⟨rfl, rfl, rfl⟩ | ⟨g, ys, rfl, rfl, hr, hl'⟩
  · cases oa <;> simp [Builtin.append_, run_underlying hu, sizeOf, typeInfo, hi, Builtin.lenOf, Builtin.firstCells, hl]
  · cases oa <;> simp [Builtin.append_, run_underlying hu, sizeOf, typeInfo, hi, Builtin.lenOf, Builtin.firstCells, storeCells, hl]
theorem wpList_pushN (hk : ∀ a, (enc a).length = k) (h1 : ∀ a, ∀ v ∈ enc a, v.oneCell' = true) (hu : P.underlying dT = some (.slice e)) (hi : P.info? e = some i) (hz : i.size = k) {z : Value} (hzz : i.zero = some z) {a0 : α} (ha0 : z.cells.toList = enc a0)
    {ops : Array Oper} {rest : List Oper} {o : Oper} {a : Act} {Q : Exit → Act → World → Prop} (hgd : o.guard = none) (d s : Operand)
    (ho : o.op = .call { callee := .builtin .append, args := #[d, s], argTypes := #[dT, dT] }) {v : Value} {og : Option Nat} {xs : List α} (h : SlG enc e w v og xs) {ad : Addr} (zs : List α) (hs : Src enc w ad zs)
    (hd : a.eval d = v) {n c : Nat} (hsv : a.eval s = .slice (some ad) n c) (hn : n = zs.length) (hm : 0 < zs.length) (hb : (xs.length + zs.length) * i.bytes ≤ 140737488355328) (hb1 : xs.length + zs.length ≤ 9223372036854775807)
    (hK : ∀ W v' og', SlG enc e W v' og' (xs ++ zs) → (og' = og ∨ ∃ g, og' = some g ∧ w.heap.size ≤ g) → Upd (fun j => og = some j) w W → wpList P ops Q rest (a.put o.dst v') W) : wpList P ops Q (o :: rest) a w := by
  subst hn
  obtain ⟨W, v', og', h2, h3, h4, h5⟩ := run_push hk h1 hu hi hz hzz ha0 o.type h hs c hm hb1 hb
  exact Lib.wpList_append_run w hgd d s dT dT ho _ _ hd hsv _ _ h2 (hK W v' og' h3 h4 h5)
theorem step_pushN (hk : ∀ a, (enc a).length = k) (h1 : ∀ a, ∀ v ∈ enc a, v.oneCell' = true) (hu : P.underlying dT = some (.slice e)) (hi : P.info? e = some i) (hz : i.size = k) {z : Value} (hzz : i.zero = some z) {a0 : α} (ha0 : z.cells.toList = enc a0)
    {ops : Array Oper} {o : Oper} {a : Act} {K : Act → World → Prop} {Q : Exit → Act → World → Prop} {F : Prop} (hgd : o.guard = none) (d s : Operand)
    (ho : o.op = .call { callee := .builtin .append, args := #[d, s], argTypes := #[dT, dT] }) {v : Value} {og : Option Nat} {xs : List α} (h : SlG enc e w v og xs) {ad : Addr} (zs : List α) (hs : Src enc w ad zs)
    (hd : a.eval d = v) {n c : Nat} (hsv : a.eval s = .slice (some ad) n c) (hn : n = zs.length) (hm : 0 < zs.length) (hb : (xs.length + zs.length) * i.bytes ≤ 140737488355328) (hb1 : xs.length + zs.length ≤ 9223372036854775807)
    (hK : ∀ W v' og', SlG enc e W v' og' (xs ++ zs) → (og' = og ∨ ∃ g, og' = some g ∧ w.heap.size ≤ g) → Upd (fun j => og = some j) w W → K (a.put o.dst v') W) : if Region.wanted o (yielded ops a.tmps) = true then Oper.wp P o a w K Q else F := by
  subst hn
  obtain ⟨W, v', og', h2, h3, h4, h5⟩ := run_push hk h1 hu hi hz hzz ha0 o.type h hs c hm hb1 hb
  exact step_append_run w hgd d s dT dT ho _ _ hd hsv h2 (hK W v' og' h3 h4 h5)
end
section
variable {α : Type} {enc : α → List Value}
theorem SlG.fresh0 {E : TypeId} {w : World} : SlG enc E (w.alloc (.cells #[] E)) (.slice (some ⟨w.heap.size, 0, none⟩) 0 0) (some w.heap.size) ([] : List α) :=
  .inr ⟨w.heap.size, [], rfl, rfl, alloc_at _ _, by simp⟩
end
end Go.Proofs.Ytebiebcpdjipjaa
