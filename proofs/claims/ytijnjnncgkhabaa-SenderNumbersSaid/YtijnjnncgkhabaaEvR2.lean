/- DERIVED. The evaluator's memory against the model's: writes, new blocks. -/
import Derived.Test.YtijnjnncgkhabaaEvR
namespace Go.Proofs.Ytijnjnncgkhabaa
namespace Ev
open Go.RowKit

theorem setCells_at (b : Nat) : ∀ (vs : List Value) (o : Nat) (w : World) (c : Array Value) (el : TypeId) (fz : Nat × Nat), w.heap[b]? = some (.cells c el fz) →
    ∃ c', (w.setCells b o vs).heap[b]? = some (.cells c' el fz) ∧ c'.size = c.size ∧ ∀ j, c'[j]? = if o ≤ j ∧ j < o + vs.length ∧ j < c.size then vs[j - o]? else c[j]?
  | [], o, w, c, el, fz, h => ⟨c, h, rfl, fun j => by rw [if_neg]; simp; omega⟩
  | v :: r, o, w, c, el, fz, h => by
    have h1 : (w.setCell ⟨b, o, none⟩ v).heap[b]? = some (.cells (c.setIfInBounds o v) el fz) := by
      simp [World.setCell, Array.getElem?_modify, h]
    obtain ⟨c', g1, g2, g3⟩ := setCells_at b r (o + 1) _ _ el fz h1
    refine ⟨c', by simpa [World.setCells] using g1, by simpa using g2, fun j => ?_⟩
    rw [g3 j]
    simp only [Array.size_setIfInBounds, List.length_cons]
    by_cases hj : o + 1 ≤ j ∧ j < o + 1 + r.length ∧ j < c.size
    · rw [if_pos hj, if_pos (by omega), show j - o = (j - (o + 1)) + 1 by omega, List.getElem?_cons_succ]
    · rw [if_neg hj, Array.getElem?_setIfInBounds]
      by_cases e : o = j
      · subst e
        by_cases hc : o < c.size
        · rw [if_pos rfl, if_pos hc, if_pos (by omega), Nat.sub_self, List.getElem?_cons_zero]
        · rw [if_pos rfl, if_neg hc, if_neg (by omega), Array.getElem?_eq_none (by omega)]
      · rw [if_neg e, if_neg (by omega)]
theorem setCells_other (b : Nat) : ∀ (vs : List Value) (o : Nat) (w : World) (i : Nat), i ≠ b → (w.setCells b o vs).heap[i]? = w.heap[i]?
  | [], _, _, _, _ => rfl
  | v :: r, o, w, i, h => by rw [World.setCells, setCells_other b r (o + 1) _ i h]; exact Below.heap_setCell _ _ _ _ h
theorem setCells_size (b : Nat) : ∀ (vs : List Value) (o : Nat) (w : World), (w.setCells b o vs).heap.size = w.heap.size
  | [], _, _ => rfl
  | v :: r, o, w => by rw [World.setCells, setCells_size b r (o + 1) _]; simp [World.setCell]
theorem setCells_below (b B : Nat) (hb : B ≤ b) : ∀ (vs : List Value) (o : Nat) (w W : World), Below B W w → Below B W (w.setCells b o vs)
  | [], _, _, _, h => h
  | v :: r, o, w, W, h => by rw [World.setCells]; exact setCells_below b B hb r (o + 1) _ W (h.setCell hb v)

section
variable {β β' : Id → CA} {D D' : Id → Prop} {n n' B : Nat} {h : Heap} {w : World}

/-- One block is another now: the others stand. -/
theorem HR.swap (hr : HR β D B h w) {id : Id} (hd : D id) {b : Option Blk} {w' : World} (hs : w.heap.size ≤ w'.heap.size) (ho : ∀ i, i ≠ (β id).blk → w'.heap[i]? = w.heap[i]?)
    (halive : h id ≠ none)
    (hb : ∀ k, b = some k → ∃ c el fz, w'.heap[(β id).blk]? = some (.cells c el fz) ∧ c.size = (β id).lim ∧ fzok k.z.s fz c.size ∧ Cells β D c (β id).base k.c ∧ Zok k.z (β id) k.c.length) : HR β D B (Heap.put h id b) w' := by
  have hne : ∀ j, h j ≠ none → j ≠ id → (β j).blk ≠ (β id).blk := fun j hj hji e => hji (hr.inj j id hj halive e)
  refine ⟨fun j k hk => ?_, fun i j hi hj e => ?_, hr.old, Nat.le_trans hr.size hs⟩
  · by_cases hj : j.num = id.num
    · obtain rfl := Id.num_inj hj
      simp only [Heap.put, if_true] at hk
      exact ⟨hd, hb k hk⟩
    · simp only [Heap.put, if_neg hj] at hk
      obtain ⟨h1, c, el, fz, h2, h3⟩ := hr.live j k hk
      refine ⟨h1, c, el, fz, ?_, h3⟩
      rw [ho _ (hne j (by rw [hk]; simp) (fun e => hj (by rw [e])))]
      exact h2
  · have alive : ∀ i, Heap.put h id b i ≠ none → h i ≠ none := fun i hi => by
      by_cases hj : i.num = id.num
      · obtain rfl := Id.num_inj hj; exact halive
      · simpa only [Heap.put, if_neg hj] using hi
    exact hr.inj i j (alive i hi) (alive j hj) e

/-- Writing. -/
theorem HR.write (hr : HR β D B h w) {id : Id} {k : Blk} (hk : h id = some k) (lo : Nat) {l : List AV} {Vs : List Value} (hl : VRs β D l Vs) (h1 : ∀ v ∈ l, v.one = true) (hm : lo + l.length ≤ k.c.length) :
    HR β D B (Heap.put h id (some ⟨k.z, k.c.take lo ++ (l ++ k.c.drop (lo + l.length))⟩)) (w.setCells (β id).blk ((β id).base + lo) Vs) := by
  obtain ⟨hd, c, el, fz, hb, hs, hf, hc, hzk⟩ := hr.live id k hk
  obtain ⟨c', g1, g2, g3⟩ := setCells_at (β id).blk Vs ((β id).base + lo) w c el fz hb
  refine hr.swap hd (by rw [setCells_size]; exact Nat.le_refl _) (fun i hi => setCells_other _ _ _ _ _ hi) (by rw [hk]; simp) ?_
  rintro k' ⟨⟩
  have hcf := hc.fit
  have hlen := hl.length
  refine ⟨c', el, fz, g1, by rw [g2, hs], by rw [g2]; exact hf, ⟨?_, ?_, ?_⟩, ?_⟩
  rotate_left 3
  · have e : (k.c.take lo ++ (l ++ k.c.drop (lo + l.length))).length = k.c.length := by simp only [List.length_append, List.length_take, List.length_drop]; omega
    simp only [e]
    exact hzk
  · simp only [List.length_append, List.length_take, List.length_drop]; omega
  · intro v hv
    simp only [List.mem_append] at hv
    rcases hv with hv | hv | hv
    · exact hc.one v (List.mem_of_mem_take hv)
    · exact h1 v hv
    · exact hc.one v (List.mem_of_mem_drop hv)
  · intro j v hv
    rw [g3]
    by_cases hj : j < lo
    · rw [List.getElem?_append_left (by rw [List.length_take]; omega), List.getElem?_take, if_pos hj] at hv
      rw [if_neg (by omega)]
      exact hc.get j v hv
    · rw [List.getElem?_append_right (by rw [List.length_take]; omega), List.length_take, Nat.min_eq_left (by omega)] at hv
      by_cases hj2 : j - lo < l.length
      · rw [List.getElem?_append_left hj2] at hv
        obtain ⟨V, hV, hr'⟩ := hl.get _ v hv
        rw [if_pos (by omega), show (β id).base + j - ((β id).base + lo) = j - lo by omega]
        exact ⟨V, hV, hr'⟩
      · rw [List.getElem?_append_right (by omega), List.getElem?_drop, show lo + l.length + (j - lo - l.length) = j by omega] at hv
        rw [if_neg (by omega)]
        exact hc.get j v hv

/-- A name for a new place. -/
noncomputable def named (β : Id → CA) (id : Id) (a : CA) : Id → CA := fun j => if j.num = id.num then a else β j
theorem named_same (β : Id → CA) (id : Id) (a : CA) : named β id a id = a := by simp [named]
theorem named_ext (β : Id → CA) {D : Id → Prop} {id : Id} (a : CA) (hd : ¬ D id) : Ext β D (named β id a) (fun j => D j ∨ j = id) id.num (id.num + 1) :=
  ⟨Nat.le_succ _, fun j hj => ⟨.inl hj, by
    unfold named
    rw [if_neg (fun e => hd (by rwa [← Id.num_inj e]))]⟩, fun j hj => by
    rcases hj with hj | rfl
    · exact .inl hj
    · exact .inr ⟨Nat.le_refl _, Nat.lt_succ_self _⟩⟩

/-- A new block, in a new row. -/
theorem HR.fresh (hr : HR β D B h w) {id : Id} (hd : ¬ D id) (z : Zf) {l : List AV} (c : Array Value) (el : TypeId) (fz0 : Nat × Nat) (hfz : fzok z.s fz0 c.size) (hc : Cells β D c 0 l) (hzn : z.t = true → l.length = c.size) :
    HR (named β id ⟨w.heap.size, 0, c.size⟩) (fun j => D j ∨ j = id) B (Heap.put h id (some ⟨z, l⟩)) (w.alloc (.cells c el fz0)) := by
  have hx := named_ext β (D := D) (id := id) ⟨w.heap.size, 0, c.size⟩ hd
  have hnew : (w.alloc (.cells c el fz0)).heap[w.heap.size]? = some (.cells c el fz0) := by
    show (w.heap.push _)[w.heap.size]? = _
    simp
  have hold : ∀ j, D j → named β id ⟨w.heap.size, 0, c.size⟩ j = β j := fun j hj => (hx.keep j hj).2
  have hlt : ∀ j k, h j = some k → (β j).blk < w.heap.size := fun j k hk => by
    obtain ⟨_, c', el', fz, hb, _⟩ := hr.live j k hk
    rcases Nat.lt_or_ge (β j).blk w.heap.size with h' | h'
    · exact h'
    · rw [Array.getElem?_eq_none h'] at hb; cases hb
  refine ⟨fun j k hk => ?_, fun i j hi hj e => ?_, fun j hj => ?_, Nat.le_trans hr.size (by simp)⟩
  · by_cases hj : j.num = id.num
    · obtain rfl := Id.num_inj hj
      simp only [Heap.put, if_true] at hk
      cases hk
      refine ⟨.inr rfl, c, el, fz0, ?_, ?_, hfz, ?_, ?_⟩
      · rw [named_same]; exact hnew
      · rw [named_same]
      · rw [named_same]; exact Cells.mono hx hc
      · rw [named_same]; exact ⟨fun _ => rfl, fun e => by simp only [Nat.zero_add]; exact hzn e⟩
    · simp only [Heap.put, if_neg hj] at hk
      obtain ⟨h1, c', el', fz, h2, h3, h4, h5, h6⟩ := hr.live j k hk
      refine ⟨.inl h1, c', el', fz, ?_, ?_, h4, ?_, by rw [hold j h1]; exact h6⟩
      · rw [hold j h1, Below.heap_alloc _ _ _ (hlt j k hk)]; exact h2
      · rw [hold j h1]; exact h3
      · rw [hold j h1]; exact Cells.mono hx h5
  · have alive : ∀ i, Heap.put h id (some ⟨z, l⟩) i ≠ none → i = id ∨ (D i ∧ ∃ k, h i = some k) := fun i hi => by
      by_cases hj : i.num = id.num
      · exact .inl (Id.num_inj hj)
      · simp only [Heap.put, if_neg hj] at hi
        cases hk : h i with
        | none => exact absurd hk hi
        | some k => exact .inr ⟨(hr.live i k hk).1, k, rfl⟩
    rcases alive i hi with rfl | ⟨di, k, hk⟩
    · rcases alive j hj with rfl | ⟨dj, k', hk'⟩
      · rfl
      · rw [named_same, hold j dj] at e
        have := hlt j k' hk'
        simp only at e
        omega
    · rcases alive j hj with rfl | ⟨dj, k', hk'⟩
      · rw [named_same, hold i di] at e
        have := hlt i k hk
        simp only at e
        omega
      · rw [hold i di, hold j dj] at e
        exact hr.inj i j (by rw [hk]; simp) (by rw [hk']; simp) e
  · rcases hj with hj | rfl
    · rw [hold j hj]; exact hr.old j hj
    · rw [named_same]; exact hr.size

theorem fzok_zero (z : Bool) (n : Nat) : fzok z (0, 0) n := by
  cases z
  · rfl
  · exact .inl rfl
/-- A block goes. -/
theorem HR.gone (hr : HR β D B h w) (id : Id) : HR β D B (Heap.put h id none) w := by
  refine ⟨fun j k hk => ?_, fun i j hi hj e => ?_, hr.old, hr.size⟩
  · by_cases hj : j.num = id.num
    · simp only [Heap.put, if_pos hj] at hk; cases hk
    · simp only [Heap.put, if_neg hj] at hk; exact hr.live j k hk
  · have alive : ∀ i, Heap.put h id none i ≠ none → h i ≠ none := fun i hi => by
      by_cases hj : i.num = id.num
      · simp only [Heap.put, if_pos hj] at hi; exact absurd rfl hi
      · simpa only [Heap.put, if_neg hj] using hi
    exact hr.inj i j (alive i hi) (alive j hj) e

/-- A new block in an old one's row, behind some of its cells. -/
theorem HR.onto (hr : HR β D B h w) {id nid : Id} (hd : ¬ D nid) {k : Blk} (hk : h id = some k) (lo m : Nat) (hm : lo + m ≤ k.c.length) {l : List AV} {Vs : List Value} (hl : VRs β D l Vs) (h1 : ∀ v ∈ l, v.one = true)
    (hfit : (β id).base + lo + m + l.length ≤ (β id).lim) :
    HR (named β nid ⟨(β id).blk, (β id).base + lo, (β id).lim⟩) (fun j => D j ∨ j = nid) B (Heap.put (Heap.put h id none) nid (some ⟨k.z.over lo, (k.c.drop lo).take m ++ l⟩)) (w.setCells (β id).blk ((β id).base + lo + m) Vs) := by
  obtain ⟨did, c, el, fz, hb, hs, hf, hc, hzk⟩ := hr.live id k hk
  obtain ⟨c', g1, g2, g3⟩ := setCells_at (β id).blk Vs ((β id).base + lo + m) w c el fz hb
  have hx := named_ext β (D := D) (id := nid) ⟨(β id).blk, (β id).base + lo, (β id).lim⟩ hd
  have hold : ∀ j, D j → named β nid ⟨(β id).blk, (β id).base + lo, (β id).lim⟩ j = β j := fun j hj => (hx.keep j hj).2
  have hcf := hc.fit
  have hlen := hl.length
  have hpart := hc.part lo m hm
  have hcells : Cells β D c' ((β id).base + lo) ((k.c.drop lo).take m ++ l) := by
    refine ⟨?_, ?_, ?_⟩
    · simp only [List.length_append, List.length_take, List.length_drop]; omega
    · intro v hv
      simp only [List.mem_append] at hv
      rcases hv with hv | hv
      · exact hpart.one v hv
      · exact h1 v hv
    · intro j v hv
      rw [g3]
      by_cases hj : j < m
      · rw [List.getElem?_append_left (by rw [List.length_take, List.length_drop]; omega)] at hv
        rw [if_neg (by omega)]
        exact hpart.get j v hv
      · rw [List.getElem?_append_right (by rw [List.length_take, List.length_drop]; omega), List.length_take, List.length_drop, Nat.min_eq_left (by omega)] at hv
        obtain ⟨V, hV, hr'⟩ := hl.get _ v hv
        have hjl : j - m < l.length := by
          rcases Nat.lt_or_ge (j - m) l.length with h' | h'
          · exact h'
          · rw [List.getElem?_eq_none h'] at hv; cases hv
        rw [if_pos (by omega), show (β id).base + lo + j - ((β id).base + lo + m) = j - m by omega]
        exact ⟨V, hV, hr'⟩
  have halive : ∀ j, Heap.put h id none j ≠ none → h j ≠ none ∧ j ≠ id := fun j hj => by
    by_cases e : j.num = id.num
    · simp only [Heap.put, if_pos e] at hj; exact absurd rfl hj
    · exact ⟨by simpa only [Heap.put, if_neg e] using hj, fun e' => e (by rw [e'])⟩
  have hne : ∀ j, h j ≠ none → j ≠ id → (β j).blk ≠ (β id).blk := fun j hj hji e => hji (hr.inj j id hj (by rw [hk]; simp) e)
  refine ⟨fun j kk hkk => ?_, fun i j hi hj e => ?_, fun j hj => ?_, by rw [setCells_size]; exact hr.size⟩
  · by_cases hj : j.num = nid.num
    · obtain rfl := Id.num_inj hj
      simp only [Heap.put, if_true] at hkk
      cases hkk
      refine ⟨.inr rfl, c', el, fz, ?_, ?_, ?_, ?_, ?_⟩
      · rw [named_same]; exact g1
      · rw [named_same, g2]; exact hs
      · rw [g2]; exact hf
      · rw [named_same]; exact Cells.mono hx hcells
      · rw [named_same]; exact hzk.over lo _
    · have hkk' : Heap.put h id none j = some kk := by simpa only [Heap.put, if_neg hj] using hkk
      obtain ⟨h1', h2'⟩ := halive j (by rw [hkk']; simp)
      have hkj : h j = some kk := by
        have e : ¬ j.num = id.num := fun e => h2' (Id.num_inj e)
        simpa only [Heap.put, if_neg e] using hkk'
      obtain ⟨a1, c2, el2, fz2, a2, a3, a4, a5, a6⟩ := hr.live j kk hkj
      refine ⟨.inl a1, c2, el2, fz2, ?_, ?_, a4, ?_, by rw [hold j a1]; exact a6⟩
      · rw [hold j a1, setCells_other _ _ _ _ _ (hne j h1' h2')]; exact a2
      · rw [hold j a1]; exact a3
      · rw [hold j a1]; exact Cells.mono hx a5
  · have alive : ∀ i, Heap.put (Heap.put h id none) nid (some ⟨k.z.over lo, (k.c.drop lo).take m ++ l⟩) i ≠ none → i = nid ∨ (D i ∧ h i ≠ none ∧ i ≠ id) := fun i hi => by
      by_cases e : i.num = nid.num
      · exact .inl (Id.num_inj e)
      · have hi' : Heap.put h id none i ≠ none := by simpa only [Heap.put, if_neg e] using hi
        obtain ⟨x, y⟩ := halive i hi'
        cases hk' : h i with
        | none => exact absurd hk' x
        | some kk => exact .inr ⟨(hr.live i kk hk').1, by simp, y⟩
    rcases alive i hi with rfl | ⟨di, ai, ni⟩
    · rcases alive j hj with rfl | ⟨dj, aj, nj⟩
      · rfl
      · rw [named_same, hold j dj] at e
        exact absurd e.symm (hne j aj nj)
    · rcases alive j hj with rfl | ⟨dj, aj, nj⟩
      · rw [named_same, hold i di] at e
        exact absurd e (hne i ai ni)
      · rw [hold i di, hold j dj] at e
        exact hr.inj i j ai aj e
  · rcases hj with hj | rfl
    · rw [hold j hj]; exact hr.old j hj
    · rw [named_same]; exact hr.old id did
end
end Ev
end Go.Proofs.Ytijnjnncgkhabaa
