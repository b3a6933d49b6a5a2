/- DERIVED. A slice at the head of a row, of elements of any kind; append of one element. -/
import Derived.Deep.RegionLaw
import Derived.OrdersHeld
import Derived.Deep.RegionHeld
import Derived.Laws.BytesArg
import Derived.Deep.DeepCutAuto
import Derived.Test.YtnneoeimgbemfaaGreatQH2
set_option linter.all false
namespace Go.Proofs.YtnneoeimgbemfaaGreat
open Go.RowKit

section
variable {α : Type} {enc : α → List Value} {k : Nat} {P : Program} {e dT : TypeId} {i : TypeInfo} {w : World}

/-- A slice value that is nil, or lies at the head of the row og, and reads as xs. -/
def SlG (enc : α → List Value) (E : TypeId) (w : World) (v : Value) (og : Option Nat) (xs : List α) : Prop :=
  (v = .slice none 0 0 ∧ xs = [] ∧ og = none) ∨
  ∃ g ys, og = some g ∧ v = .slice (some ⟨g, 0, none⟩) xs.length (xs.length + ys.length) ∧ Row enc w E g (xs ++ ys) ∧ xs.length + ys.length ≤ 9223372036854775807

theorem SlG.nil (w : World) : SlG enc e w (.slice none 0 0) none [] := .inl ⟨rfl, rfl, rfl⟩
theorem SlG.lt {v : Value} {og : Option Nat} {xs : List α} (h : SlG enc e w v og xs) : ∀ g, og = some g → g < w.heap.size := by
  rcases h with ⟨_, _, rfl⟩ | ⟨g, ys, rfl, _, h, _⟩
  · intro g hg; cases hg
  · intro g' hg
    cases hg
    exact heap_lt h
theorem SlG.keeps {F : Nat → Prop} {w' : World} {v : Value} {og : Option Nat} {xs : List α} (h : SlG enc e w v og xs) (hu : Upd F w w') (hF : ∀ g, og = some g → ¬ F g) : SlG enc e w' v og xs := by
  rcases h with h | ⟨g, ys, rfl, hv, h, hl⟩
  · exact .inl h
  · exact .inr ⟨g, ys, rfl, hv, hu.keeps h (hF g rfl), hl⟩
theorem SlG.below {w' : World} {v : Value} {og : Option Nat} {xs : List α} (h : SlG enc e w v og xs) (hu : Below w.heap.size w w') : SlG enc e w' v og xs :=
  h.keeps (Upd.below hu) (fun g hg => by have := h.lt g hg; omega)
theorem SlG.drewN {v : Value} {og : Option Nat} {xs : List α} (h : SlG enc e w v og xs) (n : Nat) : SlG enc e (w.drewN n) v og xs := h
theorem SlG.shape {v : Value} {og : Option Nat} {xs : List α} (h : SlG enc e w v og xs) : ∃ oa cap, v = .slice oa xs.length cap ∧ xs.length ≤ cap ∧ cap ≤ 9223372036854775807 := by
  rcases h with ⟨rfl, rfl, _⟩ | ⟨g, ys, _, rfl, _, hl⟩
  · exact ⟨none, 0, rfl, Nat.le_refl _, by omega⟩
  · exact ⟨_, _, rfl, by omega, hl⟩

/-- append of one element: in place, or onto a new row. -/
theorem wpList_push (hk : ∀ a, (enc a).length = k) (h1 : ∀ a, ∀ v ∈ enc a, v.oneCell' = true) (hu : P.underlying dT = some (.slice e)) (hi : P.info? e = some i) (hz : i.size = k) {z : Value} (hzz : i.zero = some z) {a0 : α} (ha0 : z.cells.toList = enc a0)
    {ops : Array Oper} {rest : List Oper} {o : Oper} {a : Act} {Q : Exit → Act → World → Prop} (hgd : o.guard = none) (d s : Operand)
    (ho : o.op = .call { callee := .builtin .append, args := #[d, s], argTypes := #[dT, dT] }) {v : Value} {og : Option Nat} {xs : List α} (h : SlG enc e w v og xs) {h' : Nat} {r : α} {E' : TypeId} (hs : Row enc w E' h' [r])
    (hd : a.eval d = v) {soff c : Nat} (hsv : a.eval s = .slice (some ⟨h', soff, none⟩) 1 c) (hso : soff = 0) (hb : (xs.length + 1) * i.bytes ≤ 140737488355328) (hb1 : xs.length < 9223372036854775807)
    (hK : ∀ W v' og', SlG enc e W v' og' (xs ++ [r]) → (og' = og ∨ ∃ g, og' = some g ∧ w.heap.size ≤ g) → Upd (fun j => og = some j) w W → w.heap.size ≤ W.heap.size → wpList P ops Q rest (a.put o.dst v') W) : wpList P ops Q (o :: rest) a w := by
  subst hso
  rcases h with ⟨rfl, rfl, rfl⟩ | ⟨g, ys, rfl, rfl, hr, hl⟩
  · refine wpList_append_nil hk hu hi hz hzz ha0 hgd d s ho hs 0 hd hsv (by omega) (by decide) (by simp) (by omega) (by simpa using hb) ?_
    intro W cap hW hc1 hc2 hB hsz
    refine hK W _ (some w.heap.size) (.inr ⟨w.heap.size, List.replicate (cap - 1) a0, rfl, ?_, by simpa using hW, ?_⟩) (.inr ⟨_, rfl, Nat.le_refl _⟩) ?_ hB.size
    · simp
      omega
    · simp
      omega
    · exact (Upd.below hB).mono (fun j hj x => by omega)
  · cases ys with
    | nil =>
      refine wpList_append_fresh hk hu hi hz hzz ha0 hgd d s ho hr hs 0 0 hd hsv (by omega) (by omega) (by simp) (by simp) (by simp) (by simp) (by omega) (by simpa using hb) ?_
      intro W cap hW hc1 hc2 hB hsz
      refine hK W _ (some w.heap.size) (.inr ⟨w.heap.size, List.replicate (cap - (xs.length + 1)) a0, rfl, ?_, by simpa using hW, ?_⟩) (.inr ⟨_, rfl, Nat.le_refl _⟩) ?_ hB.size
      · simp
        omega
      · simp
        omega
      · exact (Upd.below hB).mono (fun j hj x => by omega)
    | cons y ys =>
      refine wpList_append_at hk h1 hu hi hz hgd d s ho hr hs 0 0 hd hsv (by omega) (by omega) (by simp) (by simp; try omega) (by simp) ?_
      intro W hW hU
      have e1 : splice (xs ++ y :: ys) (0 + xs.length) (([r] : List α).drop 0 |>.take 1) = (xs ++ [r]) ++ ys := by
        have := splice_end xs (y :: ys) [r] (by simp)
        simpa using this
      rw [e1] at hW
      refine hK W _ (some g) (.inr ⟨g, ys, rfl, ?_, hW, ?_⟩) (.inl rfl) (hU.mono (fun j _ x => by rw [x])) hU.size
      · simp
        omega
      · simp at hl ⊢
        omega
end
end Go.Proofs.YtnneoeimgbemfaaGreat

/- DERIVED. append of elements that lie anywhere, onto a slice of one's own: in place, or onto a new row; as a run, in a list, at a step of a region that draws. -/
namespace Go.Proofs.YtnneoeimgbemfaaGreat
open Go.RowKit

section
variable {α : Type}
/-- Elements that lie from an address on. -/
def Src (enc : α → List Value) (w : World) (ad : Addr) (zs : List α) : Prop := ∀ j v, (flat enc zs)[j]? = some v → w.cell? (ad.add j) = some v
variable {enc : α → List Value} {k : Nat}
theorem Src.row {w : World} {E : TypeId} {g : Nat} {rs : List α} (h : Row enc w E g rs) (hk : ∀ a, (enc a).length = k) (q n : Nat) (hq : q + n ≤ rs.length) : Src enc w ⟨g, q * k, none⟩ ((rs.drop q).take n) := h.src hk q n hq
theorem Src.block {w : World} {g : Nat} {zs : List α} {cs : Array Value} {t : TypeId} {z : Nat × Nat} (h : w.heap[g]? = some (.cells cs t z)) (hl : cs.toList = flat enc zs) : Src enc w ⟨g, 0, none⟩ zs := by
  intro j v hv
  rw [add_lit', Nat.zero_add, cell_at h]
  rw [← hl] at hv
  simpa using hv

theorem SlG.alloc {E : TypeId} {w : World} {v : Value} {og : Option Nat} {xs : List α} (h : SlG enc E w v og xs) (o : Obj) : SlG enc E (w.alloc o) v og xs := h.below ((Below.refl _ _).alloc (Nat.le_refl _) _)
theorem SlG.drew {E : TypeId} {w : World} {v : Value} {og : Option Nat} {xs : List α} (h : SlG enc E w v og xs) : SlG enc E w.drew v og xs := h.below (Below.refl _ _).drew
variable {P : Program} {w : World} {e dT : TypeId} {i : TypeInfo}
theorem run_push (hk : ∀ a, (enc a).length = k) (h1 : ∀ a, ∀ v ∈ enc a, v.oneCell' = true) (hu : P.underlying dT = some (.slice e)) (hi : P.info? e = some i) (hz : i.size = k) {z : Value} (hzz : i.zero = some z) {a0 : α} (ha0 : z.cells.toList = enc a0) (ty : TypeId)
    {v : Value} {og : Option Nat} {xs : List α} (h : SlG enc e w v og xs) {ad : Addr} {zs : List α} (hs : Src enc w ad zs) (c : Nat) (hm : 0 < zs.length) (h63 : xs.length + zs.length ≤ 9223372036854775807) (hb : (xs.length + zs.length) * i.bytes ≤ 140737488355328) :
    ∃ W v' og', (Builtin.append_ #[dT, dT] ty #[v, .slice (some ad) zs.length c]).run P w = .ok v' W ∧ SlG enc e W v' og' (xs ++ zs) ∧ (og' = og ∨ ∃ g, og' = some g ∧ w.heap.size ≤ g) ∧ Upd (fun j => og = some j) w W := by
  rcases h with ⟨rfl, rfl, rfl⟩ | ⟨g, ys, rfl, rfl, hr, hl⟩
  · simp only [List.length_nil, Nat.zero_add] at h63 hb
    have hrun := run_append_nil (P := P) w dT ty e i z hu hi hzz ad zs.length c (flat enc zs) (by rw [flat_length hk, hz]) hs hm (by omega) (by omega)
    have hc1 := grownCap_ge w zs.length 0 e
    have hc2 := grownCap_le_maxLen w zs.length 0 e (by unfold maxLen; omega)
    refine ⟨_, _, some w.heap.size, hrun, .inr ⟨w.heap.size, List.replicate (grownCap w zs.length 0 e - zs.length) a0, rfl, ?_, ?_, ?_⟩, .inr ⟨_, rfl, Nat.le_refl _⟩, ?_⟩
    · simp
      omega
    · unfold Row
      have := alloc_at w.drew (.cells ((flat enc zs).toArray ++ Builtin.zeroCells z.cells (grownCap w zs.length 0 e - zs.length)) e)
      refine Eq.trans this ?_
      congr 2
      rw [List.nil_append, flat_append, ← flat_replicate_zero (hk a0) ha0]
      simp
    · simp
      unfold maxLen at hc2
      omega
    · exact (Upd.below ((Below.refl w.heap.size w).drew.alloc (Nat.le_refl _) _)).mono (fun j hj x => by omega)
  · by_cases hroom : zs.length ≤ ys.length
    · have hf := run_firstCells_some (P := P) w k zs.length ad zs.length c (flat enc zs) (flat_length hk zs) hs
      have hst := run_store_row (P := P) w hk h1 hr xs.length zs (by rw [List.length_append]; omega)
      have ha : (⟨g, 0, none⟩ : Addr).add (xs.length * k) = ⟨g, xs.length * k, none⟩ := by rw [add_lit', Nat.zero_add]
      have hro : xs.length + zs.length ≤ xs.length + ys.length := by omega
      have e1 : splice (xs ++ ys) xs.length zs = (xs ++ zs) ++ ys.drop zs.length := by
        rw [splice_end xs ys zs hroom, List.append_assoc]
      refine ⟨setR enc w g (splice (xs ++ ys) xs.length zs), .slice (some ⟨g, 0, none⟩) (xs.length + zs.length) (xs.length + ys.length), some g, ?_, .inr ⟨g, ys.drop zs.length, rfl, ?_, ?_, ?_⟩, .inl rfl, ?_⟩
      · simp [Builtin.append_, run_underlying hu, sizeOf, typeInfo, hi, hz, Builtin.lenOf, hf, ha, hst, hroom]
      · simp
        omega
      · rw [← e1]
        exact hr.set _
      · simp
        omega
      · exact (setR_upd w g _).mono (fun j _ x => by rw [x])
    · have hrun := run_append_grow (P := P) w dT ty e i z hu hi hzz ⟨g, 0, none⟩ xs.length (xs.length + ys.length) (flat enc xs) (by rw [flat_length hk, hz])
        (by
          have := hr.src hk 0 xs.length (by rw [List.length_append]; omega)
          simpa using this) ad zs.length c (flat enc zs) (by rw [flat_length hk, hz]) hs (by omega) (by omega) (growslice_fits (by omega) hb)
      have hc1 := grownCap_ge w (xs.length + zs.length) (xs.length + ys.length) e
      have hc2 := grownCap_le_maxLen w (xs.length + zs.length) (xs.length + ys.length) e (by unfold maxLen; omega)
      refine ⟨_, _, some w.heap.size, hrun, .inr ⟨w.heap.size, List.replicate (grownCap w (xs.length + zs.length) (xs.length + ys.length) e - (xs.length + zs.length)) a0, rfl, ?_, ?_, ?_⟩, .inr ⟨_, rfl, Nat.le_refl _⟩, ?_⟩
      · simp
        omega
      · unfold Row
        refine Eq.trans (alloc_at w.drew _) ?_
        congr 2
        rw [flat_append, flat_append, ← flat_replicate_zero (hk a0) ha0]
        simp
      · simp
        unfold maxLen at hc2
        omega
      · exact (Upd.below ((Below.refl w.heap.size w).drew.alloc (Nat.le_refl _) _)).mono (fun j hj x => by omega)
theorem run_push_none (hu : P.underlying dT = some (.slice e)) (hi : P.info? e = some i) (ty : TypeId) {v : Value} {og : Option Nat} {xs : List α} (h : SlG enc e w v og xs) (oa : Option Addr) (c : Nat) (_hk : ∀ a, (enc a).length = k) :
    (Builtin.append_ #[dT, dT] ty #[v, .slice oa 0 c]).run P w = .ok v w := by
  have hl : ∀ a : Addr, (loadCells a 0).run P w = .ok #[] w := fun a => by simp [loadCells, loadCellsFrom]
  rcases h with ⟨rfl, rfl, rfl⟩ | ⟨g, ys, rfl, rfl, hr, hl'⟩
  · cases oa <;> simp [Builtin.append_, run_underlying hu, sizeOf, typeInfo, hi, Builtin.lenOf, Builtin.firstCells, hl]
  · cases oa <;> simp [Builtin.append_, run_underlying hu, sizeOf, typeInfo, hi, Builtin.lenOf, Builtin.firstCells, storeCells, hl]
theorem wpList_pushN (hk : ∀ a, (enc a).length = k) (h1 : ∀ a, ∀ v ∈ enc a, v.oneCell' = true) (hu : P.underlying dT = some (.slice e)) (hi : P.info? e = some i) (hz : i.size = k) {z : Value} (hzz : i.zero = some z) {a0 : α} (ha0 : z.cells.toList = enc a0)
    {ops : Array Oper} {rest : List Oper} {o : Oper} {a : Act} {Q : Exit → Act → World → Prop} (hgd : o.guard = none) (d s : Operand)
    (ho : o.op = .call { callee := .builtin .append, args := #[d, s], argTypes := #[dT, dT] }) {v : Value} {og : Option Nat} {xs : List α} (h : SlG enc e w v og xs) {ad : Addr} (zs : List α) (hs : Src enc w ad zs)
    (hd : a.eval d = v) {n c : Nat} (hsv : a.eval s = .slice (some ad) n c) (hn : n = zs.length) (hm : 0 < zs.length) (hb : (xs.length + zs.length) * i.bytes ≤ 140737488355328) (hb1 : xs.length + zs.length ≤ 9223372036854775807)
    (hK : ∀ W v' og', SlG enc e W v' og' (xs ++ zs) → (og' = og ∨ ∃ g, og' = some g ∧ w.heap.size ≤ g) → Upd (fun j => og = some j) w W → wpList P ops Q rest (a.put o.dst v') W) : wpList P ops Q (o :: rest) a w := by
  subst hn
  obtain ⟨W, v', og', h2, h3, h4, h5⟩ := run_push hk h1 hu hi hz hzz ha0 o.type h hs c hm hb1 hb
  exact Lib.wpList_append_run w hgd d s dT dT ho _ _ hd hsv _ _ h2 (hK W v' og' h3 h4 h5)
theorem step_pushN (hk : ∀ a, (enc a).length = k) (h1 : ∀ a, ∀ v ∈ enc a, v.oneCell' = true) (hu : P.underlying dT = some (.slice e)) (hi : P.info? e = some i) (hz : i.size = k) {z : Value} (hzz : i.zero = some z) {a0 : α} (ha0 : z.cells.toList = enc a0)
    {ops : Array Oper} {o : Oper} {a : Act} {K : Act → World → Prop} {Q : Exit → Act → World → Prop} {F : Prop} (hgd : o.guard = none) (d s : Operand)
    (ho : o.op = .call { callee := .builtin .append, args := #[d, s], argTypes := #[dT, dT] }) {v : Value} {og : Option Nat} {xs : List α} (h : SlG enc e w v og xs) {ad : Addr} (zs : List α) (hs : Src enc w ad zs)
    (hd : a.eval d = v) {n c : Nat} (hsv : a.eval s = .slice (some ad) n c) (hn : n = zs.length) (hm : 0 < zs.length) (hb : (xs.length + zs.length) * i.bytes ≤ 140737488355328) (hb1 : xs.length + zs.length ≤ 9223372036854775807)
    (hK : ∀ W v' og', SlG enc e W v' og' (xs ++ zs) → (og' = og ∨ ∃ g, og' = some g ∧ w.heap.size ≤ g) → Upd (fun j => og = some j) w W → K (a.put o.dst v') W) : if Region.wanted o (yielded ops a.tmps) = true then Oper.wp P o a w K Q else F := by
  subst hn
  obtain ⟨W, v', og', h2, h3, h4, h5⟩ := run_push hk h1 hu hi hz hzz ha0 o.type h hs c hm hb1 hb
  exact step_append_run w hgd d s dT dT ho _ _ hd hsv h2 (hK W v' og' h3 h4 h5)
end
section
variable {α : Type} {enc : α → List Value}
theorem SlG.fresh0 {E : TypeId} {w : World} : SlG enc E (w.alloc (.cells #[] E)) (.slice (some ⟨w.heap.size, 0, none⟩) 0 0) (some w.heap.size) ([] : List α) :=
  .inr ⟨w.heap.size, [], rfl, rfl, alloc_at _ _, by simp⟩
end
end Go.Proofs.YtnneoeimgbemfaaGreat

/- DERIVED. Slices that are only read: whatever their block holds besides; parts of them. -/
namespace Go.Proofs.YtnneoeimgbemfaaGreat
open Go.RowKit

section
variable {α : Type} {enc : α → List Value} {k : Nat}
/-- A slice value that reads as xs; its cells lie in a block below B. -/
def Vw (enc : α → List Value) (w : World) (B : Nat) (v : Value) (xs : List α) : Prop :=
  ∃ oa cap, v = .slice oa xs.length cap ∧ xs.length ≤ cap ∧ cap ≤ 9223372036854775807 ∧ (xs = [] ∨ ∃ b off, oa = some ⟨b, off, none⟩ ∧ b < B ∧ ∀ j u, (flat enc xs)[j]? = some u → w.cell? ⟨b, off + j, none⟩ = some u)
theorem Vw.below {w w' : World} {B : Nat} {v : Value} {xs : List α} (h : Vw enc w B v xs) (hb : Below B w w') : Vw enc w' B v xs := by
  obtain ⟨oa, cap, h1, h2, h3, h4⟩ := h
  refine ⟨oa, cap, h1, h2, h3, ?_⟩
  rcases h4 with h4 | ⟨b, off, h4, h5, h6⟩
  · exact .inl h4
  · exact .inr ⟨b, off, h4, h5, fun j u hu => (hb.cell (p := ⟨b, off + j, none⟩) h5).trans (h6 j u hu)⟩
theorem Vw.mono {w : World} {B B' : Nat} {v : Value} {xs : List α} (h : Vw enc w B v xs) (hb : B ≤ B') : Vw enc w B' v xs := by
  obtain ⟨oa, cap, h1, h2, h3, h4⟩ := h
  refine ⟨oa, cap, h1, h2, h3, ?_⟩
  rcases h4 with h4 | ⟨b, off, h4, h5, h6⟩
  · exact .inl h4
  · exact .inr ⟨b, off, h4, by omega, h6⟩
theorem Vw.upd {F : Nat → Prop} {w w' : World} {B : Nat} {v : Value} {xs : List α} (h : Vw enc w B v xs) (hu : Upd F w w') (hB : B ≤ w.heap.size) (hF : ∀ b, b < B → ¬ F b) : Vw enc w' B v xs :=
  h.below ⟨hu.os, hu.tape, hu.output, hu.size, fun j hj => hu.block j (by omega) (hF j hj)⟩
theorem Vw.shape {w : World} {B : Nat} {v : Value} {xs : List α} (h : Vw enc w B v xs) : ∃ oa cap, v = .slice oa xs.length cap ∧ xs.length ≤ cap ∧ cap ≤ 9223372036854775807 := by
  obtain ⟨oa, cap, h1, h2, h3, _⟩ := h
  exact ⟨oa, cap, h1, h2, h3⟩
theorem Vw.nil (w : World) (B : Nat) (oa : Option Addr) (cap : Nat) (h : cap ≤ 9223372036854775807) : Vw enc w B (.slice oa 0 cap) [] := ⟨oa, cap, rfl, by simp, h, .inl rfl⟩
theorem SlG.vw {E : TypeId} {w : World} {v : Value} {og : Option Nat} {xs : List α} (h : SlG enc E w v og xs) : Vw enc w w.heap.size v xs := by
  rcases h with ⟨rfl, rfl, rfl⟩ | ⟨g, ys, rfl, rfl, hr, hl⟩
  · exact Vw.nil _ _ _ _ (by omega)
  · refine ⟨_, _, rfl, by omega, hl, .inr ⟨g, 0, rfl, heap_lt hr, ?_⟩⟩
    intro j u hj
    rw [Nat.zero_add, hr.cell, flat_append]
    rw [List.getElem?_append_left (by rw [List.getElem?_eq_some_iff] at hj; exact hj.1)]
    exact hj
theorem Vw.src {w : World} {B : Nat} {v : Value} {xs : List α} (h : Vw enc w B v xs) (hx : 0 < xs.length) : ∃ ad cap, v = .slice (some ad) xs.length cap ∧ Src enc w ad xs := by
  obtain ⟨oa, cap, h1, h2, h3, h4⟩ := h
  rcases h4 with rfl | ⟨b, off, rfl, h5, h6⟩
  · simp at hx
  · refine ⟨_, cap, h1, fun j u hu => ?_⟩
    rw [add_lit']
    exact h6 j u hu
/-- An element's cells. -/
theorem Vw.el {w : World} {B : Nat} {oa : Option Addr} {n cap : Nat} {xs : List α} (h : Vw enc w B (.slice oa n cap) xs) (hk : ∀ a, (enc a).length = k) {i : Nat} {a : α} (ha : xs[i]? = some a) :
    ∃ b off, oa = some ⟨b, off, none⟩ ∧ b < B ∧ ∀ j, j < k → w.cell? ⟨b, off + i * k + j, none⟩ = (enc a)[j]? := by
  obtain ⟨oa', cap', h1, h2, h3, h4⟩ := h
  cases h1
  rcases h4 with rfl | ⟨b, off, rfl, h5, h6⟩
  · simp at ha
  · refine ⟨b, off, rfl, h5, fun j hj => ?_⟩
    have hg := flat_get hk xs i j hj ha
    obtain ⟨u, hu⟩ : ∃ u, (enc a)[j]? = some u := ⟨_, List.getElem?_eq_getElem (by rw [hk]; exact hj)⟩
    rw [hu] at hg ⊢
    rw [Nat.add_assoc]
    exact h6 _ u hg
/-- A part of it: from p on, n elements. -/
theorem Vw.part {w : World} {B : Nat} {b off len cap : Nat} {xs : List α} (h : Vw enc w B (.slice (some ⟨b, off, none⟩) len cap) xs) (hk : ∀ a, (enc a).length = k) (p n c : Nat) (hp : p + n ≤ xs.length) (hn : n ≤ c) (hc : c ≤ 9223372036854775807) :
    Vw enc w B (.slice (some ⟨b, off + p * k, none⟩) n c) ((xs.drop p).take n) := by
  obtain ⟨oa', cap', h1, h2, h3, h4⟩ := h
  have hl : ((xs.drop p).take n).length = n := by rw [List.length_take, List.length_drop]; omega
  refine ⟨_, c, by rw [hl], by rw [hl]; exact hn, hc, ?_⟩
  rcases h4 with rfl | ⟨b', off', h4, h5, h6⟩
  · left
    simp
  · cases h1
    cases h4
    refine .inr ⟨b, off + p * k, rfl, h5, fun j u hj => ?_⟩
    rw [Nat.add_assoc]
    apply h6
    rw [← flat_take hk, ← flat_drop hk] at hj
    rw [List.getElem?_take] at hj
    split at hj
    · rw [List.getElem?_drop] at hj
      exact hj
    · cases hj
end

section
variable {α : Type} {enc : α → List Value} {k : Nat} {P : Program} {w : World} {e dT : TypeId} {i : TypeInfo}
/-- append(s, x...), x read only. -/
theorem run_pushV (hk : ∀ a, (enc a).length = k) (h1 : ∀ a, ∀ v ∈ enc a, v.oneCell' = true) (hu : P.underlying dT = some (.slice e)) (hi : P.info? e = some i) (hz : i.size = k) {z : Value} (hzz : i.zero = some z) {a0 : α} (ha0 : z.cells.toList = enc a0) (ty : TypeId)
    {v u : Value} {og : Option Nat} {xs zs : List α} {B : Nat} (h : SlG enc e w v og xs) (hs : Vw enc w B u zs) (h63 : xs.length + zs.length ≤ 9223372036854775807) (hb : (xs.length + zs.length) * i.bytes ≤ 140737488355328) :
    ∃ W v' og', (Builtin.append_ #[dT, dT] ty #[v, u]).run P w = .ok v' W ∧ SlG enc e W v' og' (xs ++ zs) ∧ (og' = og ∨ ∃ g, og' = some g ∧ w.heap.size ≤ g) ∧ Upd (fun j => og = some j) w W := by
  rcases Nat.eq_zero_or_pos zs.length with h0 | h0
  · obtain ⟨oa, cap, rfl, _, _⟩ := hs.shape
    have e0 := List.eq_nil_of_length_eq_zero h0
    subst e0
    refine ⟨w, v, og, run_push_none hu hi ty h oa cap hk, by rw [List.append_nil]; exact h, .inl rfl, Upd.refl _ _⟩
  · obtain ⟨ad, cap, rfl, hsrc⟩ := hs.src h0
    exact run_push hk h1 hu hi hz hzz ha0 ty h hsrc cap h0 h63 hb
theorem wpList_pushV (hk : ∀ a, (enc a).length = k) (h1 : ∀ a, ∀ v ∈ enc a, v.oneCell' = true) (hu : P.underlying dT = some (.slice e)) (hi : P.info? e = some i) (hz : i.size = k) {z : Value} (hzz : i.zero = some z) {a0 : α} (ha0 : z.cells.toList = enc a0)
    {ops : Array Oper} {rest : List Oper} {o : Oper} {a : Act} {Q : Exit → Act → World → Prop} (hgd : o.guard = none) (d s : Operand)
    (ho : o.op = .call { callee := .builtin .append, args := #[d, s], argTypes := #[dT, dT] }) {v u : Value} {og : Option Nat} {xs : List α} (h : SlG enc e w v og xs) {B : Nat} {zs : List α} (hs : Vw enc w B u zs)
    (hd : a.eval d = v) (hsv : a.eval s = u) (hb : (xs.length + zs.length) * i.bytes ≤ 140737488355328) (hb1 : xs.length + zs.length ≤ 9223372036854775807)
    (hK : ∀ W v' og', SlG enc e W v' og' (xs ++ zs) → (og' = og ∨ ∃ g, og' = some g ∧ w.heap.size ≤ g) → Upd (fun j => og = some j) w W → wpList P ops Q rest (a.put o.dst v') W) : wpList P ops Q (o :: rest) a w := by
  obtain ⟨W, v', og', h2, h3, h4, h5⟩ := run_pushV hk h1 hu hi hz hzz ha0 o.type h hs hb1 hb
  exact Lib.wpList_append_run w hgd d s dT dT ho _ _ hd hsv _ _ h2 (hK W v' og' h3 h4 h5)
theorem step_pushV (hk : ∀ a, (enc a).length = k) (h1 : ∀ a, ∀ v ∈ enc a, v.oneCell' = true) (hu : P.underlying dT = some (.slice e)) (hi : P.info? e = some i) (hz : i.size = k) {z : Value} (hzz : i.zero = some z) {a0 : α} (ha0 : z.cells.toList = enc a0)
    {ops : Array Oper} {o : Oper} {a : Act} {K : Act → World → Prop} {Q : Exit → Act → World → Prop} {F : Prop} (hgd : o.guard = none) (d s : Operand)
    (ho : o.op = .call { callee := .builtin .append, args := #[d, s], argTypes := #[dT, dT] }) {v u : Value} {og : Option Nat} {xs : List α} (h : SlG enc e w v og xs) {B : Nat} {zs : List α} (hs : Vw enc w B u zs)
    (hd : a.eval d = v) (hsv : a.eval s = u) (hb : (xs.length + zs.length) * i.bytes ≤ 140737488355328) (hb1 : xs.length + zs.length ≤ 9223372036854775807)
    (hK : ∀ W v' og', SlG enc e W v' og' (xs ++ zs) → (og' = og ∨ ∃ g, og' = some g ∧ w.heap.size ≤ g) → Upd (fun j => og = some j) w W → K (a.put o.dst v') W) : if Region.wanted o (yielded ops a.tmps) = true then Oper.wp P o a w K Q else F := by
  obtain ⟨W, v', og', h2, h3, h4, h5⟩ := run_pushV hk h1 hu hi hz hzz ha0 o.type h hs hb1 hb
  exact step_append_run w hgd d s dT dT ho _ _ hd hsv h2 (hK W v' og' h3 h4 h5)
end

/-- Bytes. -/
def encB (n : Nat) : List Value := [.int .u8 n]
theorem encB_len (n : Nat) : (encB n).length = 1 := rfl
theorem encB_one (n : Nat) : ∀ v ∈ encB n, v.oneCell' = true := by
  intro v hv
  simp [encB] at hv
  subst hv
  rfl
theorem flatB (l : List Nat) : flat encB l = l.map (fun (n : Nat) => Value.int .u8 (n : Int)) := by
  induction l with
  | nil => rfl
  | cons a l ih => rw [flat_cons, ih]; rfl
def Bys (l : List Nat) : Prop := ∀ n ∈ l, n < 256
/-- Bools. -/
def encL (b : Bool) : List Value := [.bool b]
theorem encL_len (b : Bool) : (encL b).length = 1 := rfl
theorem encL_one (b : Bool) : ∀ v ∈ encL b, v.oneCell' = true := by
  intro v hv
  simp [encL] at hv
  subst hv
  rfl
theorem Vw.byte {w : World} {B : Nat} {oa : Option Addr} {n cap : Nat} {xs : List Nat} (h : Vw encB w B (.slice oa n cap) xs) {i x : Nat} (hx : xs[i]? = some x) :
    ∃ b off, oa = some ⟨b, off, none⟩ ∧ b < B ∧ w.cell? ⟨b, off + i, none⟩ = some (.int .u8 x) := by
  obtain ⟨b, off, h1, h2, h3⟩ := h.el encB_len hx
  refine ⟨b, off, h1, h2, ?_⟩
  have := h3 0 (by omega)
  simpa [encB] using this
end Go.Proofs.YtnneoeimgbemfaaGreat

/- DERIVED. Slices that came in, as views: elements of any kind; bytes. -/
namespace Go.Proofs.YtnneoeimgbemfaaGreat
open Go.ChangeShapes Go.WideShapes Go.ChangeAt Go.RowKit
section
variable {H : Type} {enc : TypeId × Value → H} {P : Program} {W : World} {sp : Nat → Bool} {held : Bool}
theorem sliceIs_vw {e : TypeId} {oa : Option Addr} {len cap : Nat} {D : Nat → DataW H} (h : SliceIs enc P W sp held e oa len cap D) {α : Type} (cod : α → List Value) (Ok : α → Prop) (a0 : α) (hk : ∀ a, (cod a).length = P.cellsOf e)
    (hel : ∀ cs d, cs.length = P.cellsOf e → Reads enc P W sp held e cs d → ∃ a, cs = cod a ∧ Ok a) :
    ∃ L : List α, L.length = len ∧ Vw cod W W.heap.size (.slice oa len cap) L ∧ ∀ a ∈ L, Ok a := by
  obtain ⟨hl, hm, hc⟩ := h
  have hx : ∀ i, ∃ a, i < len → Ok a ∧ ∃ b off, oa = some ⟨b, off, none⟩ ∧ b < W.heap.size ∧ ∀ j, j < P.cellsOf e → W.cell? ⟨b, off + i * P.cellsOf e + j, none⟩ = (cod a)[j]? := by
    intro i
    by_cases hi : i < len
    · obtain ⟨b, off, cs, h1, h2, h3, h4, h5⟩ := hc i hi
      obtain ⟨a, rfl, ha⟩ := hel cs _ h3 h5
      exact ⟨a, fun _ => ⟨ha, b, off, h1, h2, h4⟩⟩
    · exact ⟨a0, fun h => absurd h hi⟩
  obtain ⟨f, hf⟩ := Classical.axiomOfChoice hx
  have hlen : ((List.range len).map f).length = len := by simp
  refine ⟨(List.range len).map f, hlen, ⟨oa, cap, by rw [hlen], by rw [hlen]; exact hl, by unfold maxLen at hm; omega, ?_⟩, ?_⟩
  · rcases Nat.eq_zero_or_pos len with h0 | h0
    · subst h0
      exact .inl rfl
    · right
      obtain ⟨_, b, off, h1, h2, _⟩ := hf 0 h0
      refine ⟨b, off, h1, h2, ?_⟩
      intro j u hu
      have hkp : 0 < P.cellsOf e := by
        rcases Nat.eq_zero_or_pos (P.cellsOf e) with h' | h'
        · have := flat_length hk ((List.range len).map f)
          rw [h', Nat.mul_zero] at this
          have := List.eq_nil_of_length_eq_zero this
          rw [this] at hu
          simp at hu
        · exact h'
      have hjl : j < len * P.cellsOf e := by
        have := flat_length hk ((List.range len).map f)
        rw [hlen] at this
        rw [List.getElem?_eq_some_iff] at hu
        obtain ⟨h', _⟩ := hu
        omega
      have hd : j / P.cellsOf e < len := Nat.div_lt_of_lt_mul (by rw [Nat.mul_comm]; exact hjl)
      have hmd := Nat.mod_lt j hkp
      have e1 := Nat.div_add_mod j (P.cellsOf e)
      obtain ⟨_, b', off', h1', _, h3'⟩ := hf _ hd
      rw [h1] at h1'
      cases h1'
      have h4 := h3' _ hmd
      have h5 := flat_get hk ((List.range len).map f) (j / P.cellsOf e) (j % P.cellsOf e) hmd (a := f (j / P.cellsOf e)) (by rw [List.getElem?_map, List.getElem?_range hd]; rfl)
      rw [Nat.mul_comm] at e1
      rw [e1] at h5
      rw [Nat.add_assoc, e1] at h4
      rw [h4, ← h5, hu]
  · intro a ha
    obtain ⟨i, hi, rfl⟩ := List.mem_map.1 ha
    exact (hf i (List.mem_range.1 hi)).1
theorem vw_came {base : Nat} {t e : TypeId} {v : Value} {d : DataW H} {ps : List MemPlace} (ht : P.underlying t = some (.slice e)) (hn : 0 < P.cellsOf e) (hval : Value.okWide P W .any base t v) (h : DataW.Trod enc P W 0 (fun _ => true) true t v d ps)
    (hw : (DataW.weights P t d).all (· ≤ reachBytes) = true) {α : Type} (cod : α → List Value) (Ok : α → Prop) (a0 : α) (hk : ∀ a, (cod a).length = P.cellsOf e)
    (hel : ∀ cs d, cs.length = P.cellsOf e → Reads enc P W (fun _ => true) true e cs d → ∃ a, cs = cod a ∧ Ok a) :
    ∃ oa len cap, ∃ L : List α, v = .slice oa len cap ∧ L.length = len ∧ len * P.bytesOf e ≤ 140737488351232 ∧ len ≤ 9223372036854775807 ∧ Vw cod W W.heap.size v L ∧ ∀ a ∈ L, Ok a := by
  obtain ⟨oa, len, cap, rfl⟩ := okWide_slice ht hval
  obtain ⟨oa', len', cap', D, spl, hcs, hS, hd⟩ := (Reads.of h).slice ht hn
  simp only [Value.cells, List.cons.injEq, Value.slice.injEq, and_true] at hcs
  obtain ⟨rfl, rfl, rfl⟩ := hcs
  obtain ⟨L, h1, h2, h3⟩ := sliceIs_vw hS cod Ok a0 hk hel
  have hb : len * P.bytesOf e ≤ 140737488351232 := by
    rcases hd with ⟨_, h0, _⟩ | ⟨rfl, _⟩
    · subst h0; omega
    · simp only [DataW.weights, ht, List.all_cons, Bool.and_eq_true, List.length_map, List.length_range, reachBytes] at hw
      have hw1 := of_decide_eq_true hw.1
      have : len * P.bytesOf e ≤ (len + spl.length) * P.bytesOf e := Nat.mul_le_mul_right _ (by omega)
      omega
  refine ⟨oa, len, cap, L, rfl, h1, hb, ?_, h2, h3⟩
  have := hS.1
  have := hS.2.1
  unfold maxLen at this
  omega
/-- Bytes that came in. -/
theorem byte_el {e : TypeId} (he : P.underlying e = some (.int .u8)) (_hc : P.cellsOf e = 1) (cs : List Value) (d : DataW H) (_ : cs.length = P.cellsOf e) (h : Reads enc P W sp held e cs d) : ∃ a : Nat, cs = encB a ∧ a < 256 := by
  obtain ⟨n, rfl, _, h2⟩ := h.int he
  have := u8_bd h2
  exact ⟨n.toNat, by rw [encB, show ((n.toNat : Nat) : Int) = n by omega], by omega⟩
theorem bytes_read {t e : TypeId} (ht : P.underlying t = some (.slice e)) (he : P.underlying e = some (.int .u8)) (hc : P.cellsOf e = 1) {cs : List Value} {d : DataW H} (h : Reads enc P W sp held t cs d) :
    ∃ v, ∃ L : List Nat, cs = [v] ∧ Vw encB W W.heap.size v L ∧ Bys L := by
  obtain ⟨oa, len, cap, D, spl, rfl, hS, _⟩ := h.slice ht (by omega)
  obtain ⟨L, h1, h2, h3⟩ := sliceIs_vw hS encB (· < 256) 0 (fun a => by rw [encB_len, hc]) (byte_el he hc)
  exact ⟨_, L, rfl, h2, h3⟩
end
end Go.Proofs.YtnneoeimgbemfaaGreat

/- DERIVED. A region that draws its order, whose last operations store into cells that it loads: the held condition is asked for only till one of those stores has come. -/
namespace Go.Proofs.YtnneoeimgbemfaaGreat

/-- One of the tail's operations has come. -/
def dead (tail : List Nat) (listed : Array Bool) : Bool := tail.any fun j => listed.getD j false
/-- Each of the tail's operations waits for number i. -/
def waits (md : Region.Mode) (ops : Array Oper) (tail : List Nat) (i : Nat) : Bool :=
  tail.all fun j => (ops[j]?).elim true fun o => o.after.any fun e => Region.binds md e && e.on == i

section
variable {P : Program} {ops : Array Oper} {Q : Exit → Act → World → Prop} {md : Region.Mode} {S : World → Prop} {tail : List Nat}

def wpTill (P : Program) (md : Region.Mode) (ops : Array Oper) (Q : Exit → Act → World → Prop) (S : World → Prop) (tail : List Nat) : Nat → Array Bool → Act → World → Prop
  | 0, l, a, w => Region.ready md ops l = [] ∧ Q .normal a w
  | n + 1, l, a, w => (Region.ready md ops l = [] → Q .normal a w) ∧
      ∀ i ∈ Region.ready md ops l, wpOp P ops Q i (fun a' w' => (dead tail (l.setIfInBounds i true) = false → S w') ∧ wpTill P md ops Q S tail n (l.setIfInBounds i true) a' w') a w

theorem wpAny_of_till : ∀ (n : Nat) (l : Array Bool) (a : Act) (w : World), wpTill P md ops Q S tail n l a w → wpAny P md ops Q n l a w
  | 0, _, _, _, h => h
  | n + 1, _, _, _, h => ⟨h.1, fun i hi => wpOp_mono (fun _ _ h' => wpAny_of_till n _ _ _ h'.2) (h.2 i hi)⟩

theorem dead_set {l : Array Bool} {j : Nat} (h : dead tail l = false) (hj : j ∉ tail) : dead tail (l.setIfInBounds j true) = false := by
  unfold dead at *
  rw [List.any_eq_false] at *
  intro k hk
  have h1 := h k hk
  rw [getD_set_ne false (fun e => hj (by rw [e]; exact hk))]
  exact h1
/-- Who waits for a number that has not come cannot come. -/
theorem ready_waits {l : Array Bool} {i j : Nat} {o : Oper} (hj : j ∈ Region.ready md ops l) (ho : ops[j]? = some o) (hi : l.getD i true = false) : ∀ e ∈ o.after, Region.binds md e = true → e.on ≠ i := by
  intro e he hb heq
  obtain ⟨_, o', ho', hall⟩ := mem_ready.1 hj
  rw [ho] at ho'
  cases ho'
  have h1 := hall e he hb
  rw [heq] at h1
  rcases Nat.lt_or_ge i l.size with h' | h'
  · simp [h'] at hi h1
    rw [hi] at h1
    cases h1
  · simp [Array.getElem?_eq_none h'] at h1

theorem wpTill_first {i : Nat} {oi : Oper} {v : Value} (hi : ops[i]? = some oi) (hsel : ∀ (j : Nat) (o : Oper) cs b, ops[j]? = some o → o.op ≠ .select cs b)
    (hQ : ∀ c a w, Q (.panic c) (a.put oi.dst v) w → Q (.panic c) a w) (hw : waits md ops tail i = true) (hit : i ∉ tail) :
    ∀ (n : Nat) (l : Array Bool) (a : Act) (w : World), dead tail l = false →
      (∀ j oj, ops[j]? = some oj → j ≠ i → l.getD j true = false → (∀ e ∈ oj.after, Region.binds md e = true → e.on ≠ i) → oi.apart ops oj = true) →
      i ∈ Region.ready md ops l → YieldsIf P ops S oi v a → S w →
      wpTill P md ops Q S tail n (l.setIfInBounds i true) (a.put oi.dst v) w → wpTill P md ops Q S tail (n + 1) l a w := by
  intro n
  induction n with
  | zero =>
    intro l a w _ _ hr hy hS H
    refine ⟨fun h => (by rw [h] at hr; cases hr), fun j hj => ?_⟩
    by_cases e : j = i
    · subst e
      exact hy.wpOp hi hS ⟨fun _ => hS, H⟩
    · have := ready_mono hj e
      rw [H.1] at this
      cases this
  | succ n ih =>
    intro l a w hd hfree hr hy hS H
    refine ⟨fun h => (by rw [h] at hr; cases hr), fun j hj => ?_⟩
    by_cases e : j = i
    · subst e
      exact hy.wpOp hi hS ⟨fun _ => hS, H⟩
    · have hiu := (mem_ready.1 hr).1
      obtain ⟨hju, oj, hoj, _⟩ := mem_ready.1 hj
      have hno := ready_waits hj hoj hiu
      have hjt : j ∉ tail := by
        intro hjt
        have h1 := List.all_eq_true.1 hw j hjt
        rw [hoj] at h1
        obtain ⟨e, he, hb⟩ := Array.any_eq_true'.1 h1
        simp only [Bool.and_eq_true, beq_iff_eq] at hb
        exact hno e he hb.1 hb.2
      have hd1 := dead_set hd hjt
      have hd2 := dead_set hd1 hit
      have h2 := wpOp_putIf hoj (hfree j oj hoj e hju hno) (fun cs b => hsel i oi cs b hi) (fun cs b => hsel j oj cs b hoj) hQ hy (H.2 j (ready_mono hj e))
      refine wpOp_mono (fun a' w' h3 => ?_) h2
      obtain ⟨h4, h5, h6⟩ := h3
      rw [Array.setIfInBounds_comm _ _ (Ne.symm e)] at h5 h6
      refine ⟨fun _ => h5 hd2, ih (l.setIfInBounds j true) a' w' hd1 (fun k ok hk hki hun hnk => hfree k ok hk hki ?_ hnk) (ready_mono hr (Ne.symm e)) h4 (h5 hd2) h6⟩
      by_cases hjk : j = k
      · subst hjk
        exact hju
      · rw [getD_set_ne true hjk] at hun
        exact hun

theorem dead_out {l : Array Bool} {i : Nat} (hi : i ∉ tail) : dead tail (l.setIfInBounds i true) = dead tail l := by
  unfold dead
  rw [Bool.eq_iff_iff, List.any_eq_true, List.any_eq_true]
  constructor
  · rintro ⟨k, hk, h⟩
    rw [getD_set_ne false (fun e => hi (by rw [e]; exact hk))] at h
    exact ⟨k, hk, h⟩
  · rintro ⟨k, hk, h⟩
    refine ⟨k, hk, ?_⟩
    rw [getD_set_ne false (fun e => hi (by rw [e]; exact hk))]
    exact h
/-- What asks no world may be taken at any time. -/
theorem wpTill_first0 {i : Nat} {oi : Oper} {v : Value} (hi : ops[i]? = some oi) (hsel : ∀ (j : Nat) (o : Oper) cs b, ops[j]? = some o → o.op ≠ .select cs b)
    (hQ : ∀ c a w, Q (.panic c) (a.put oi.dst v) w → Q (.panic c) a w) (hit : i ∉ tail) :
    ∀ (n : Nat) (l : Array Bool) (a : Act) (w : World), (dead tail l = false → S w) →
      (∀ j oj, ops[j]? = some oj → j ≠ i → l.getD j true = false → (∀ e ∈ oj.after, Region.binds md e = true → e.on ≠ i) → oi.apart ops oj = true) →
      i ∈ Region.ready md ops l → YieldsIf P ops (fun _ => True) oi v a →
      wpTill P md ops Q S tail n (l.setIfInBounds i true) (a.put oi.dst v) w → wpTill P md ops Q S tail (n + 1) l a w := by
  intro n
  induction n with
  | zero =>
    intro l a w hS _ hr hy H
    refine ⟨fun h => (by rw [h] at hr; cases hr), fun j hj => ?_⟩
    by_cases e : j = i
    · subst e
      exact hy.wpOp hi trivial ⟨fun h => hS (by rw [← h, dead_out hit]), H⟩
    · have := ready_mono hj e
      rw [H.1] at this
      cases this
  | succ n ih =>
    intro l a w hS hfree hr hy H
    refine ⟨fun h => (by rw [h] at hr; cases hr), fun j hj => ?_⟩
    by_cases e : j = i
    · subst e
      exact hy.wpOp hi trivial ⟨fun h => hS (by rw [← h, dead_out hit]), H⟩
    · have hiu := (mem_ready.1 hr).1
      obtain ⟨hju, oj, hoj, _⟩ := mem_ready.1 hj
      have hno := ready_waits hj hoj hiu
      have h2 := wpOp_putIf hoj (hfree j oj hoj e hju hno) (fun cs b => hsel i oi cs b hi) (fun cs b => hsel j oj cs b hoj) hQ hy (H.2 j (ready_mono hj e))
      refine wpOp_mono (fun a' w' h3 => ?_) h2
      obtain ⟨h4, h5, h6⟩ := h3
      rw [Array.setIfInBounds_comm _ _ (Ne.symm e)] at h5 h6
      rw [dead_out hit] at h5
      refine ⟨h5, ih (l.setIfInBounds j true) a' w' h5 (fun k ok hk hki hun hnk => hfree k ok hk hki ?_ hnk) (ready_mono hr (Ne.symm e)) h4 h6⟩
      by_cases hjk : j = k
      · subst hjk
        exact hju
      · rw [getD_set_ne true hjk] at hun
        exact hun

/-! The moves of a walk. -/
theorem wpTill_take {i : Nat} {oi : Oper} {v : Value} {n : Nat} {l : Array Bool} {a : Act} {w : World} (hi : ops[i]? = some oi)
    (hs : (Region.noSelect ops && (Region.free md ops l i && ((Region.ready md ops l).contains i && (waits md ops tail i && (!tail.contains i && !dead tail l))))) = true)
    (hQ : ∀ c a w, Q (.panic c) (a.put oi.dst v) w → Q (.panic c) a w) (hy : YieldsIf P ops S oi v a) (hS : S w)
    (h : wpTill P md ops Q S tail n (l.setIfInBounds i true) (a.put oi.dst v) w) : wpTill P md ops Q S tail (n + 1) l a w := by
  simp only [Bool.and_eq_true, Bool.not_eq_true', List.contains_eq_mem, decide_eq_true_eq, decide_eq_false_iff_not] at hs
  exact wpTill_first hi (Region.noSelect_spec hs.1) hQ hs.2.2.2.1 hs.2.2.2.2.1 n l a w hs.2.2.2.2.2 (Region.free_spec hi hs.2.1) hs.2.2.1 hy hS h

theorem wpTill_take0 {i : Nat} {oi : Oper} {v : Value} {n : Nat} {l : Array Bool} {a : Act} {w : World} (hi : ops[i]? = some oi)
    (hs : (Region.noSelect ops && (Region.free md ops l i && ((Region.ready md ops l).contains i && !tail.contains i))) = true)
    (hQ : ∀ c a w, Q (.panic c) (a.put oi.dst v) w → Q (.panic c) a w) (hy : YieldsIf P ops (fun _ => True) oi v a) (hS : dead tail l = false → S w)
    (h : wpTill P md ops Q S tail n (l.setIfInBounds i true) (a.put oi.dst v) w) : wpTill P md ops Q S tail (n + 1) l a w := by
  simp only [Bool.and_eq_true, Bool.not_eq_true', List.contains_eq_mem, decide_eq_true_eq, decide_eq_false_iff_not] at hs
  exact wpTill_first0 hi (Region.noSelect_spec hs.1) hQ hs.2.2.2 n l a w hS (Region.free_spec hi hs.2.1) hs.2.2.1 hy h

/-- Each of the operations 'rs' comes next. -/
def AllTill (P : Program) (md : Region.Mode) (ops : Array Oper) (Q : Exit → Act → World → Prop) (S : World → Prop) (tail : List Nat) (n : Nat) (l : Array Bool) (a : Act) (w : World) (rs : List Nat) : Prop :=
  ∀ i ∈ rs, wpOp P ops Q i (fun a' w' => (dead tail (l.setIfInBounds i true) = false → S w') ∧ wpTill P md ops Q S tail n (l.setIfInBounds i true) a' w') a w
theorem AllTill.nil {n : Nat} {l : Array Bool} {a : Act} {w : World} : AllTill P md ops Q S tail n l a w [] := fun _ h => by cases h
/-- One before the tail: behind it S is shown anew. -/
theorem AllTill.cons {n : Nat} {l : Array Bool} {a : Act} {w : World} {i : Nat} {o : Oper} {rs : List Nat} (ho : ops[i]? = some o)
    (h : ∀ K' : Act → World → Prop, Shut (∀ a w, S w → (S w → wpTill P md ops Q S tail n (l.setIfInBounds i true) a w) → K' a w) → if Region.wanted o (yielded ops a.tmps) = true then Oper.wp P o a w K' Q else K' (a.put o.dst undef) w)
    (hs : AllTill P md ops Q S tail n l a w rs) : AllTill P md ops Q S tail n l a w (i :: rs) := fun j hj => by
  rcases List.mem_cons.1 hj with rfl | hj
  · exact wpOp_step ho (fun K' hK => h K' (fun a w hS hW => hK a w ⟨fun _ => hS, hW hS⟩))
  · exact hs j hj
/-- One of the tail, or behind it. -/
theorem AllTill.consD {n : Nat} {l : Array Bool} {a : Act} {w : World} {i : Nat} {o : Oper} {rs : List Nat} (ho : ops[i]? = some o) (hd : dead tail (l.setIfInBounds i true) = true)
    (h : ∀ K' : Act → World → Prop, Shut (∀ a w, wpTill P md ops Q S tail n (l.setIfInBounds i true) a w → K' a w) → if Region.wanted o (yielded ops a.tmps) = true then Oper.wp P o a w K' Q else K' (a.put o.dst undef) w)
    (hs : AllTill P md ops Q S tail n l a w rs) : AllTill P md ops Q S tail n l a w (i :: rs) := fun j hj => by
  rcases List.mem_cons.1 hj with rfl | hj
  · exact wpOp_step ho (fun K' hK => h K' (fun a w hW => hK a w ⟨fun e => absurd (hd.symm.trans e) (by decide), hW⟩))
  · exact hs j hj
/-- A stronger condition from here on. -/
theorem wpTill_more {S' : World → Prop} (h : ∀ w, S' w → S w) : ∀ {n : Nat} {l : Array Bool} {a : Act} {w : World}, wpTill P md ops Q S' tail n l a w → wpTill P md ops Q S tail n l a w
  | 0, _, _, _, k => k
  | n + 1, _, _, _, k => ⟨k.1, fun i hi => wpOp_mono (fun _ _ k' => ⟨fun e => h _ (k'.1 e), wpTill_more h k'.2⟩) (k.2 i hi)⟩
theorem wpTill_ready {rs : List Nat} {n : Nat} {l : Array Bool} {a : Act} {w : World} (hr : Region.ready md ops l = rs) (hne : rs ≠ [])
    (h : AllTill P md ops Q S tail n l a w rs) : wpTill P md ops Q S tail (n + 1) l a w := ⟨fun h0 => absurd (hr ▸ h0) hne, hr ▸ h⟩
theorem wpTill_done {l : Array Bool} {a : Act} {w : World} (hr : Region.ready md ops l = []) (h : Q .normal a w) : ∀ n, wpTill P md ops Q S tail n l a w
  | 0 => ⟨hr, h⟩
  | _ + 1 => ⟨fun _ => h, by rw [hr]; simp⟩
theorem wp_region_till (tail : List Nat) {id : Nat} {a : Act} {w : World} (hm : P.follows .mixedOrders = true) (hS : S w.drew)
    (h : S w.drew → wpTill P .any ops Q S tail ops.size (Array.replicate ops.size false) a w.drew) : (Code.region id ops true).wp P Q a w :=
  wp_region_any hm (wpAny_of_till _ _ _ _ (h hS))
end
end Go.Proofs.YtnneoeimgbemfaaGreat

/- DERIVED. Steps of a region that is walked by hand: a run, a new row, a part of a slice; what they leave. -/
namespace Go.Proofs.YtnneoeimgbemfaaGreat
open Go.RowKit

theorem cell_upd {F : Nat → Prop} {w w' : World} {b o : Nat} {v : Value} (hu : Upd F w w') (h : w.cell? ⟨b, o, none⟩ = some v) (hF : ¬ F b) (hb : b < w.heap.size) : w'.cell? ⟨b, o, none⟩ = some v :=
  (World.cell?_of_block (w := w) (a := ⟨b, o, none⟩) (hu.block b hb hF)).trans h

section
variable {P : Program} {ops : Array Oper} {o : Oper} {a : Act} {w : World} {K : Act → World → Prop} {Q : Exit → Act → World → Prop} {F : Prop}
theorem step_run (hg : o.guard = none) {v : Value} {W : World} (hrun : (execOp a.eval o).run P w = .ok (.value v) W) (hK : K (a.put o.dst v) W) :
    if Region.wanted o (yielded ops a.tmps) = true then Oper.wp P o a w K Q else F := by
  have hw : Region.wanted o (yielded ops a.tmps) = true := by simp [Region.wanted, hg]
  rw [if_pos hw]
  unfold Oper.wp
  rw [hrun]
  exact hK
/-- A new row. -/
theorem step_fresh {α : Type} {enc : α → List Value} {E : TypeId} (hg : o.guard = none) (zs : List α) (cs : Array Value) (hcs : cs.toList = flat enc zs) (h63 : zs.length ≤ 9223372036854775807)
    (hrun : (execOp a.eval o).run P w = .ok (.value (.slice (some ⟨w.heap.size, 0, none⟩) zs.length zs.length)) (w.alloc (.cells cs E)))
    (hK : ∀ W v g, SlG enc E W v (some g) zs → w.heap.size ≤ g → Below w.heap.size w W → K (a.put o.dst v) W) :
    if Region.wanted o (yielded ops a.tmps) = true then Oper.wp P o a w K Q else F := by
  refine step_run hg hrun (hK _ _ w.heap.size (.inr ⟨w.heap.size, [], rfl, by simp, ?_, by simpa using h63⟩) (Nat.le_refl _) ((Below.refl _ _).alloc (Nat.le_refl _) _))
  unfold Row
  rw [alloc_at, List.append_nil, ← hcs]

/-- What is left of a slice from a place on. -/
def tailV (oa : Option Addr) (k len cap n : Nat) : Value := .slice (if cap = n then oa else oa.map (·.add (n * k))) (len - n) (cap - n)
theorem exec_tail {t e : TypeId} (hu : P.underlying t = some (.slice e)) {i : TypeInfo} (hi : P.info? e = some i) {f : Operand → Value} {x l : Operand} (ho : o.op = .slice t x (some l) none none) {oa : Option Addr} {len cap n : Nat} (hx : f x = .slice oa len cap) (hl : f l = .int .i64 n) (h1 : n ≤ len) (h2 : len ≤ cap) :
    (execOp f o).run P w = .ok (.value (tailV oa i.size len cap n)) w := by
  simp [execOp, ho, hx, hl, Instr.sliceAt, Instr.slice, run_underlying hu, Instr.sliceBounds, Instr.sliceBound, sizeOf, typeInfo, asIntOf, hi, h1, h2, tailV]
end
theorem Vw.tail {α : Type} {enc : α → List Value} {k : Nat} {w : World} {B : Nat} {oa : Option Addr} {len cap n : Nat} {xs : List α} (h : Vw enc w B (.slice oa len cap) xs) (hk : ∀ a, (enc a).length = k) (hn : n ≤ len) : Vw enc w B (tailV oa k len cap n) (xs.drop n) := by
  obtain ⟨oa', cap', h1, h2, h3, h4⟩ := h
  cases h1
  refine ⟨_, cap - n, by rw [tailV, List.length_drop], by rw [List.length_drop]; omega, by omega, ?_⟩
  rcases Nat.eq_or_lt_of_le hn with e | e
  · left
    rw [e, List.drop_length]
  · right
    rcases h4 with rfl | ⟨b, off, rfl, h5, h6⟩
    · simp at e
    · refine ⟨b, off + n * k, ?_, h5, ?_⟩
      · rw [if_neg (by omega)]
        simp [add_lit']
      · intro j u hj
        rw [← flat_drop hk, List.getElem?_drop] at hj
        rw [Nat.add_assoc]
        exact h6 _ u hj
/-- A cell of a row of one's own is set. -/
theorem SlG.put {α : Type} {enc : α → List Value} {f : α → Value} (hf : ∀ a, enc a = [f a]) {E : TypeId} {w : World} {oa : Option Addr} {n cap : Nat} {og : Option Nat} {xs : List α} (h : SlG enc E w (.slice oa n cap) og xs) {i : Nat} (hi : i < n) (a : α) :
    ∃ g, og = some g ∧ oa = some ⟨g, 0, none⟩ ∧ SlG enc E (w.setCell ⟨g, i, none⟩ (f a)) (.slice oa n cap) og (xs.set i a) := by
  rcases h with ⟨h1, rfl, rfl⟩ | ⟨g, ys, rfl, h1, hr, hl⟩
  · cases h1
    omega
  · cases h1
    refine ⟨g, rfl, rfl, .inr ⟨g, ys, rfl, by simp, ?_, by simpa using hl⟩⟩
    unfold Row at *
    rw [set_at hr]
    congr 1
    have e : xs.set i a ++ ys = (xs ++ ys).set i a := by rw [List.set_append_left _ _ hi]
    rw [e]
    have key : ∀ (l : List α) (i : Nat), flat enc (l.set i a) = (flat enc l).set i (f a) := by
      intro l
      induction l with
      | nil => intro i; simp [flat]
      | cons b l ih =>
        intro i
        cases i with
        | zero => simp [flat_cons, hf]
        | succ i => simp [flat_cons, hf, ih]
    rw [key]
    simp
theorem row_types {α β : Type} {e1 : α → List Value} {e2 : β → List Value} {E1 E2 : TypeId} {w : World} {v1 v2 : Value} {o1 o2 : Option Nat} {xs : List α} {ys : List β} (h1 : SlG e1 E1 w v1 o1 xs) (h2 : SlG e2 E2 w v2 o2 ys) (hne : E1 ≠ E2) {g : Nat} (q1 : o1 = some g) (q2 : o2 = some g) : False := by
  rcases h1 with ⟨_, _, rfl⟩ | ⟨g1, z1, rfl, _, hr1, _⟩
  · cases q1
  · rcases h2 with ⟨_, _, rfl⟩ | ⟨g2, z2, rfl, _, hr2, _⟩
    · cases q2
    · cases q1
      cases q2
      unfold Row at hr1 hr2
      rw [hr1] at hr2
      simp at hr2
      exact hne hr2.2
theorem SlG.el1 {α : Type} {enc : α → List Value} {f : α → Value} (hf : ∀ a, enc a = [f a]) {E : TypeId} {w : World} {oa : Option Addr} {n cap : Nat} {og : Option Nat} {xs : List α} (h : SlG enc E w (.slice oa n cap) og xs) {i : Nat} {a : α} (ha : xs[i]? = some a) :
    ∃ g, og = some g ∧ oa = some ⟨g, 0, none⟩ ∧ g < w.heap.size ∧ w.cell? ⟨g, i, none⟩ = some (f a) ∧ w.frozen? ⟨g, i, none⟩ = false := by
  rcases h with ⟨h1, rfl, rfl⟩ | ⟨g, ys, rfl, h1, hr, hl⟩
  · simp at ha
  · cases h1
    refine ⟨g, rfl, rfl, heap_lt hr, ?_, hr.free i⟩
    have hi : (xs ++ ys)[i]? = some a := by
      rw [List.getElem?_append_left (by rw [List.getElem?_eq_some_iff] at ha; exact ha.1)]
      exact ha
    have := hr.el (k := 1) (fun a => by rw [hf]; rfl) i 0 (by omega) hi
    rw [hf] at this
    simpa using this
theorem og_new {B n : Nat} {og og' : Option Nat} (h : ∀ g, og = some g → B ≤ g) (hn : B ≤ n) (ho : og' = og ∨ ∃ g, og' = some g ∧ n ≤ g) : ∀ g, og' = some g → B ≤ g := by
  rcases ho with rfl | ⟨g, rfl, h2⟩
  · exact h
  · intro j e
    cases e
    omega
end Go.Proofs.YtnneoeimgbemfaaGreat

/- DERIVED. Slices that are only read, and lie apart from some blocks. -/
namespace Go.Proofs.YtnneoeimgbemfaaGreat
open Go.RowKit

section
variable {α : Type} {enc : α → List Value}
/-- A slice that is only read, and lies apart from some blocks. -/
def VwA (enc : α → List Value) (fp : Nat → Prop) (w : World) (v : Value) (xs : List α) : Prop :=
  ∃ oa cap, v = .slice oa xs.length cap ∧ xs.length ≤ cap ∧ cap ≤ 9223372036854775807 ∧ (xs = [] ∨ ∃ b off, oa = some ⟨b, off, none⟩ ∧ b < w.heap.size ∧ ¬ fp b ∧ ∀ j u, (flat enc xs)[j]? = some u → w.cell? ⟨b, off + j, none⟩ = some u)
theorem Vw.apart {w : World} {B : Nat} {v : Value} {xs : List α} {fp : Nat → Prop} (h : Vw enc w B v xs) (hB : B ≤ w.heap.size) (hf : ∀ k, fp k → B ≤ k) : VwA enc fp w v xs := by
  obtain ⟨oa, cap, h1, h2, h3, h4⟩ := h
  refine ⟨oa, cap, h1, h2, h3, ?_⟩
  rcases h4 with h4 | ⟨b, off, h4, h5, h6⟩
  · exact .inl h4
  · exact .inr ⟨b, off, h4, by omega, fun hb => by have := hf b hb; omega, h6⟩
theorem VwA.upd {w w' : World} {v : Value} {xs : List α} {fp F : Nat → Prop} (h : VwA enc fp w v xs) (hu : Upd F w w') (hF : ∀ k, F k → fp k) : VwA enc fp w' v xs := by
  obtain ⟨oa, cap, h1, h2, h3, h4⟩ := h
  refine ⟨oa, cap, h1, h2, h3, ?_⟩
  rcases h4 with h4 | ⟨b, off, h4, h5, h6, h7⟩
  · exact .inl h4
  · refine .inr ⟨b, off, h4, Nat.lt_of_lt_of_le h5 hu.size, h6, fun j u hj => ?_⟩
    rw [World.cell?_of_block (hu.block b h5 (fun hx => h6 (hF b hx)))]
    exact h7 j u hj
theorem VwA.shape {fp : Nat → Prop} {w : World} {v : Value} {xs : List α} (h : VwA enc fp w v xs) : ∃ oa cap, v = .slice oa xs.length cap ∧ xs.length ≤ cap ∧ cap ≤ 9223372036854775807 := by
  obtain ⟨oa, cap, h1, h2, h3, _⟩ := h
  exact ⟨oa, cap, h1, h2, h3⟩
end
theorem VwA.byte {fp : Nat → Prop} {w : World} {oa : Option Addr} {n cap : Nat} {xs : List Nat} (h : VwA encB fp w (.slice oa n cap) xs) {i x : Nat} (hx : xs[i]? = some x) :
    ∃ b off, oa = some ⟨b, off, none⟩ ∧ w.cell? ⟨b, off + i, none⟩ = some (.int .u8 x) := by
  obtain ⟨oa', cap', h1, h2, h3, h4⟩ := h
  cases h1
  rcases h4 with rfl | ⟨b, off, rfl, h5, h6, h7⟩
  · simp at hx
  · refine ⟨b, off, rfl, h7 i _ ?_⟩
    rw [flatB, List.getElem?_map, hx]
    rfl

theorem VwA.mono {α : Type} {enc : α → List Value} {w : World} {v : Value} {xs : List α} {fp F : Nat → Prop} (h : VwA enc fp w v xs) (hF : ∀ k, F k → fp k) : VwA enc F w v xs := by
  obtain ⟨oa, cap, h1, h2, h3, h4⟩ := h
  refine ⟨oa, cap, h1, h2, h3, ?_⟩
  rcases h4 with h4 | ⟨b, off, h4, h5, h6, h7⟩
  · exact .inl h4
  · exact .inr ⟨b, off, h4, h5, fun q => h6 (hF b q), h7⟩
theorem VwA.below {α : Type} {enc : α → List Value} {w w' : World} {v : Value} {xs : List α} {fp : Nat → Prop} (h : VwA enc fp w v xs) (hb : Below w.heap.size w w') : VwA enc fp w' v xs := by
  obtain ⟨oa, cap, h1, h2, h3, h4⟩ := h
  refine ⟨oa, cap, h1, h2, h3, ?_⟩
  rcases h4 with h4 | ⟨b, off, h4, h5, h6, h7⟩
  · exact .inl h4
  · refine .inr ⟨b, off, h4, Nat.lt_of_lt_of_le h5 hb.size, h6, fun j u hj => ?_⟩
    rw [hb.cell (p := ⟨b, off + j, none⟩) h5]
    exact h7 j u hj
theorem VwA.front {α : Type} {enc : α → List Value} {k : Nat} (hk : ∀ a, (enc a).length = k) {fp : Nat → Prop} {w : World} {oa : Option Addr} {len cap : Nat} {xs : List α} (h : VwA enc fp w (.slice oa len cap) xs) (n : Nat) (hn : n ≤ len) : VwA enc fp w (.slice oa n cap) (xs.take n) := by
  obtain ⟨oa', cap', h1, h2, h3, h4⟩ := h
  cases h1
  have hl : (xs.take n).length = n := by rw [List.length_take]; omega
  refine ⟨oa, cap, by rw [hl], by rw [hl]; omega, h3, ?_⟩
  rcases h4 with rfl | ⟨b, off, rfl, h5, h6, h7⟩
  · left
    simp
  · refine .inr ⟨b, off, rfl, h5, h6, fun j u hj => h7 j u ?_⟩
    rw [← flat_take hk] at hj
    rw [List.getElem?_take] at hj
    split at hj
    · exact hj
    · cases hj
theorem SlG.vwa {α : Type} {enc : α → List Value} {E : TypeId} {fp : Nat → Prop} {w : World} {v : Value} {og : Option Nat} {xs : List α} (h : SlG enc E w v og xs) (ha : ∀ g, og = some g → ¬ fp g) : VwA enc fp w v xs := by
  rcases h with ⟨rfl, rfl, rfl⟩ | ⟨g, ys, rfl, rfl, hr, hl⟩
  · exact ⟨none, 0, rfl, by simp, by omega, .inl rfl⟩
  · refine ⟨_, _, rfl, by omega, hl, .inr ⟨g, 0, rfl, heap_lt hr, ha g rfl, ?_⟩⟩
    intro j u hj
    rw [Nat.zero_add, hr.cell, flat_append, List.getElem?_append_left (by rw [List.getElem?_eq_some_iff] at hj; exact hj.1)]
    exact hj
theorem lit_vwa {fp : Nat → Prop} {w : World} {g n c : Nat} {cs : Array Value} {t : TypeId} {z : Nat × Nat} {xs : List Nat} (h : w.heap[g]? = some (.cells cs t z)) (hl : cs.toList = flat encB xs) (hf : ¬ fp g) (hn : n = xs.length) (hc : n ≤ c) (hc2 : c ≤ 9223372036854775807) :
    VwA encB fp w (.slice (some ⟨g, 0, none⟩) n c) xs := by
  subst hn
  refine ⟨_, c, rfl, hc, hc2, .inr ⟨g, 0, rfl, heap_lt h, hf, fun j u hu => ?_⟩⟩
  rw [Nat.zero_add, cell_at h]
  rw [← hl] at hu
  simpa using hu
end Go.Proofs.YtnneoeimgbemfaaGreat

/- DERIVED. Bytes that are only read, as a string; the front of a slice (narthexkeep's Cut). -/
namespace Go.Proofs.YtnneoeimgbemfaaGreat
open Go.RowKit

def strB (l : List Nat) : ByteArray := strOfNums (l.map (fun n : Nat => (n : Int)))
/-- What a slice reads as. -/
def Rds (w : World) (v : Value) (xs : List Nat) : Prop :=
  ∃ oa cap, v = .slice oa xs.length cap ∧ xs.length ≤ cap ∧ cap ≤ 9223372036854775807 ∧ (xs = [] ∨ ∃ b off, oa = some ⟨b, off, none⟩ ∧ ∀ (j x : Nat), xs[j]? = some x → w.cell? ⟨b, off + j, none⟩ = some (.int .u8 x))
theorem VwA.rds {fp : Nat → Prop} {w : World} {v : Value} {xs : List Nat} (h : VwA encB fp w v xs) : Rds w v xs := by
  obtain ⟨oa, cap, h1, h2, h3, h4⟩ := h
  refine ⟨oa, cap, h1, h2, h3, ?_⟩
  rcases h4 with h4 | ⟨b, off, h4, h5, h6, h7⟩
  · exact .inl h4
  · refine .inr ⟨b, off, h4, fun j x hx => h7 j _ ?_⟩
    rw [flatB, List.getElem?_map, hx]
    rfl
theorem VwA.vw {α : Type} {enc : α → List Value} {fp : Nat → Prop} {w : World} {v : Value} {xs : List α} (h : VwA enc fp w v xs) : Vw enc w w.heap.size v xs := by
  obtain ⟨oa, cap, h1, h2, h3, h4⟩ := h
  refine ⟨oa, cap, h1, h2, h3, ?_⟩
  rcases h4 with h4 | ⟨b, off, h4, h5, h6, h7⟩
  · exact .inl h4
  · exact .inr ⟨b, off, h4, h5, h7⟩
theorem Vw.rds {B : Nat} {w : World} {v : Value} {xs : List Nat} (h : Vw encB w B v xs) : Rds w v xs := by
  obtain ⟨oa, cap, h1, h2, h3, h4⟩ := h
  refine ⟨oa, cap, h1, h2, h3, ?_⟩
  rcases h4 with h4 | ⟨b, off, h4, h5, h7⟩
  · exact .inl h4
  · refine .inr ⟨b, off, h4, fun j x hx => h7 j _ ?_⟩
    rw [flatB, List.getElem?_map, hx]
    rfl
theorem Rds.str {P : Program} {w : World} {v : Value} {xs : List Nat} (h : Rds w v xs) {src dst e : TypeId} (hs : P.underlying src = some (.slice e)) (he : P.underlying e = some (.int .u8)) (hd : P.underlying dst = some .string) :
    (convert src dst v).run P w = .ok (.string (strB xs)) w := by
  obtain ⟨oa, cap, rfl, _, _, h4⟩ := h
  rcases h4 with rfl | ⟨b, off, rfl, h7⟩
  · cases oa with
    | none => exact run_convert_bytes_nil w src e hs he _ _ dst hd
    | some a =>
      rw [run_convert_bytes_string w src dst e _ _ cap hs he hd]
      have hl : (loadCells a 0).run P w = .ok #[] w := by simp [loadCells, loadCellsFrom]
      rw [List.length_nil, run_bytesToString w a 0 cap [] (by simpa using hl)]
      rfl
  · refine run_convert_bytes_arg w src e hs he b off xs.length cap (xs.map (fun n : Nat => (n : Int))) (by simp) ?_ dst hd
    intro i hi
    have := h7 i xs[i] (List.getElem?_eq_getElem hi)
    rw [this]
    simp [List.getD, hi]

theorem Vw.front {α : Type} {enc : α → List Value} {k : Nat} (hk : ∀ a, (enc a).length = k) {w : World} {B : Nat} {oa : Option Addr} {len cap : Nat} {xs : List α} (h : Vw enc w B (.slice oa len cap) xs) (n : Nat) (hn : n ≤ len) : Vw enc w B (.slice oa n cap) (xs.take n) := by
  obtain ⟨oa', cap', h1, h2, h3, h4⟩ := h
  cases h1
  have hl : (xs.take n).length = n := by rw [List.length_take]; omega
  refine ⟨oa, cap, by rw [hl], by rw [hl]; omega, h3, ?_⟩
  rcases h4 with rfl | ⟨b, off, rfl, h5, h6⟩
  · left
    simp
  · refine .inr ⟨b, off, rfl, h5, fun j u hj => h6 j u ?_⟩
    rw [← flat_take hk] at hj
    rw [List.getElem?_take] at hj
    split at hj
    · exact hj
    · cases hj
/-- Cut: no more than n. -/
theorem kcut_v {w : World} {B : Nat} {v : Value} {xs : List Nat} (h : Vw encB w B v xs) (n : Nat) (_hn : n ≤ 9223372036854775807) :
    ∃ oa len cap, v = .slice oa len cap ∧ len = xs.length ∧ len ≤ cap ∧ cap ≤ 9223372036854775807 ∧ Vw encB w B (.slice oa (min len n) cap) (xs.take n) := by
  obtain ⟨oa, cap, rfl, h1, h2⟩ := h.shape
  refine ⟨oa, _, cap, rfl, rfl, h1, h2, ?_⟩
  have := h.front encB_len (min xs.length n) (Nat.min_le_left _ _)
  rw [show xs.take (min xs.length n) = xs.take n by
    rcases Nat.le_total n xs.length with h' | h'
    · rw [Nat.min_eq_right h']
    · rw [Nat.min_eq_left h', List.take_length, List.take_of_length_le h']] at this
  exact this
end Go.Proofs.YtnneoeimgbemfaaGreat
