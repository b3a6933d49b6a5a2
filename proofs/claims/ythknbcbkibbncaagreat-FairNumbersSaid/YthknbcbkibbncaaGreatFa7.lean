/- DERIVED. What an evaluation reads and writes is all that it hangs on and all that it turns: the ground. -/
import Derived.Test.YthknbcbkibbncaaGreatFa2
import Derived.Test.YthknbcbkibbncaaGreatFa6
set_option linter.all false
namespace Go.Proofs.YthknbcbkibbncaaGreat
namespace Ev

/-- what lies at a place: a cell, or, behind the last, what the block is -/
def look (h : Heap) (id : Id) (j : Nat) : Option (AV ⊕ (Nat × Zf)) := match h id with
  | none => none
  | some k => if j < k.c.length then k.c[j]?.map Sum.inl else if j = k.c.length then some (Sum.inr (k.c.length, k.z)) else none
def cov (l : List Rng) (id : Id) (j : Nat) : Prop := ∃ r ∈ l, r.id = id ∧ r.lo ≤ j ∧ j < r.lo + r.m
theorem cov_nil (id : Id) (j : Nat) : ¬ cov [] id j := by rintro ⟨r, h, _⟩; cases h
theorem cov_one {id' : Id} {lo m : Nat} (id : Id) (j : Nat) : cov [⟨id', lo, m⟩] id j ↔ id' = id ∧ lo ≤ j ∧ j < lo + m := by
  constructor
  · rintro ⟨r, h, h1⟩
    rw [List.mem_singleton] at h
    subst h
    exact h1
  · intro h
    exact ⟨_, List.mem_singleton.2 rfl, h⟩
theorem cov_append (l m : List Rng) (id : Id) (j : Nat) : cov (l ++ m) id j ↔ cov l id j ∨ cov m id j := by
  constructor
  · rintro ⟨r, h, h1⟩
    rcases List.mem_append.1 h with h | h
    · exact .inl ⟨r, h, h1⟩
    · exact .inr ⟨r, h, h1⟩
  · rintro (⟨r, h, h1⟩ | ⟨r, h, h1⟩)
    · exact ⟨r, List.mem_append.2 (.inl h), h1⟩
    · exact ⟨r, List.mem_append.2 (.inr h), h1⟩

theorem look_none {h : Heap} {id : Id} : look h id 0 = none ↔ h id = none := by
  unfold look
  cases hk : h id with
  | none => simp
  | some k =>
    simp only [reduceCtorEq, iff_false]
    by_cases h0 : 0 < k.c.length
    · simp [h0]
    · simp at h0
      simp [h0]
theorem look_cell {h : Heap} {id : Id} {k : Blk} (hk : h id = some k) {j : Nat} (hj : j < k.c.length) : look h id j = some (Sum.inl k.c[j]) := by
  unfold look
  rw [hk]
  simp [hj]
theorem look_end {h : Heap} {id : Id} {k : Blk} (hk : h id = some k) : look h id k.c.length = some (Sum.inr (k.c.length, k.z)) := by
  unfold look
  rw [hk]
  simp
theorem look_far {h : Heap} {id : Id} {k : Blk} (hk : h id = some k) {j : Nat} (hj : k.c.length < j) : look h id j = none := by
  unfold look
  rw [hk]
  simp only
  rw [if_neg (by omega), if_neg (by omega)]
theorem look_inl {h : Heap} {id : Id} {j : Nat} {v : AV} (hl : look h id j = some (Sum.inl v)) : ∃ k, h id = some k ∧ ∃ hj : j < k.c.length, k.c[j] = v := by
  unfold look at hl
  cases hk : h id with
  | none => rw [hk] at hl; cases hl
  | some k =>
    rw [hk] at hl
    simp only at hl
    by_cases hj : j < k.c.length
    · rw [if_pos hj] at hl
      simp [hj] at hl
      exact ⟨k, rfl, hj, hl⟩
    · rw [if_neg hj] at hl
      by_cases he : j = k.c.length
      · rw [if_pos he] at hl; cases hl
      · rw [if_neg he] at hl; cases hl
theorem look_inr {h : Heap} {id : Id} {j n : Nat} {z : Zf} (hl : look h id j = some (Sum.inr (n, z))) : ∃ k, h id = some k ∧ k.c.length = n ∧ k.z = z ∧ j = n := by
  unfold look at hl
  cases hk : h id with
  | none => rw [hk] at hl; cases hl
  | some k =>
    rw [hk] at hl
    simp only at hl
    by_cases hj : j < k.c.length
    · rw [if_pos hj] at hl
      simp [hj] at hl
    · rw [if_neg hj] at hl
      by_cases he : j = k.c.length
      · rw [if_pos he] at hl; simp at hl; exact ⟨k, rfl, hl.1, hl.2, he.trans hl.1⟩
      · rw [if_neg he] at hl; cases hl
theorem look_put_other (h : Heap) (id : Id) (b : Option Blk) {i : Id} (hi : i ≠ id) (j : Nat) : look (Heap.put h id b) i j = look h i j := by
  unfold look Heap.put
  rw [if_neg (fun e => hi (Id.num_inj e))]
theorem put_same (h : Heap) (id : Id) (b : Option Blk) : Heap.put h id b id = b := by simp [Heap.put]

/-- the names that a run gives are free -/
def FreeTo (s s' : S) : Prop := ∀ id : Id, s.n.num ≤ id.num → id.num < s'.n.num → s.h id = none

/-- What is said of a run from s to s', and of the same from another memory that agrees. -/
structure Run (α : Type) (m : M α) (s : S) (a : α) (s' : S) (R W : List Rng) : Prop where
  log : s.tr = true → s'.r = R ++ s.r ∧ s'.w = W ++ s.w
  off : ∀ id j, ¬ cov W id j → look s'.h id j = look s.h id j
  also : ∀ t : S, t.tr = s.tr → t.n = s.n → (∀ id j, cov R id j ∨ cov W id j → look t.h id j = look s.h id j) →
    ∃ t', m t = some (a, t') ∧ t'.n = s'.n ∧ t'.tr = s.tr ∧ (s.tr = true → t'.r = R ++ t.r ∧ t'.w = W ++ t.w) ∧ (∀ id j, cov W id j → look t'.h id j = look s'.h id j) ∧ (∀ id j, ¬ cov W id j → look t'.h id j = look t.h id j)
def Loc {α : Type} (m : M α) : Prop := ∀ s a s', m s = some (a, s') → s'.tr = s.tr ∧ s.n.num ≤ s'.n.num ∧ (∀ id, s.h id = none → s'.h id = none ∨ (s.n.num ≤ id.num ∧ id.num < s'.n.num)) ∧ (FreeTo s s' → ∃ R W, Run α m s a s' R W)

theorem Loc.pure {α : Type} (x : α) : Loc (M.pure x) := by
  intro s a s' h
  simp only [M.pure, Option.some.injEq, Prod.mk.injEq] at h
  obtain ⟨rfl, rfl⟩ := h
  exact ⟨rfl, Nat.le_refl _, fun id h => .inl h, fun _ => ⟨[], [], ⟨fun _ => ⟨rfl, rfl⟩, fun _ _ _ => rfl, fun t h1 h2 _ => ⟨t, rfl, h2, h1, fun _ => ⟨rfl, rfl⟩, fun id j h => absurd h (cov_nil id j), fun _ _ _ => rfl⟩⟩⟩⟩
theorem Loc.no {α : Type} : Loc (M.no : M α) := by
  intro s a s' h
  simp [M.no] at h
theorem Loc.ofO {α γ : Type} {o : Option α} {f : α → M γ} (hf : ∀ x, Loc (f x)) : Loc (M.ofO o f) := by
  cases o with
  | none => exact Loc.no
  | some x => exact hf x
theorem Loc.ifB {α : Type} {b : Bool} {m : M α} (h : Loc m) : Loc (M.ifB b m) := by
  cases b
  · exact Loc.no
  · exact h
theorem Loc.bind {α γ : Type} {m : M α} {f : α → M γ} (hm : Loc m) (hf : ∀ x, Loc (f x)) : Loc (M.bind m f) := by
  intro s y s' h
  simp only [M.bind] at h
  cases hms : m s with
  | none => rw [hms] at h; cases h
  | some xu =>
    obtain ⟨x, u⟩ := xu
    rw [hms] at h
    simp only at h
    obtain ⟨a1, a2, a3, a4⟩ := hm s x u hms
    obtain ⟨b1, b2, b3, b4⟩ := hf x u y s' h
    refine ⟨b1.trans a1, Nat.le_trans a2 b2, fun id hid => ?_, fun hfr => ?_⟩
    · rcases a3 id hid with h1 | h1
      · rcases b3 id h1 with h2 | h2
        · exact .inl h2
        · exact .inr ⟨by omega, h2.2⟩
      · exact .inr ⟨h1.1, by omega⟩
    obtain ⟨R1, W1, r1⟩ := a4 (fun id c d => hfr id c (by omega))
    obtain ⟨R2, W2, r2⟩ := b4 (fun id c d => (a3 id (hfr id (by omega) d)).resolve_right (by omega))
    refine ⟨R2 ++ R1, W2 ++ W1, ⟨fun htr => ?_, fun id j hc => ?_, fun t t1 t2 t3 => ?_⟩⟩
    · obtain ⟨c1, c2⟩ := r1.log htr
      obtain ⟨d1, d2⟩ := r2.log (a1.trans htr)
      exact ⟨by rw [d1, c1, List.append_assoc], by rw [d2, c2, List.append_assoc]⟩
    · rw [cov_append] at hc
      rw [r2.off id j (fun h => hc (.inl h)), r1.off id j (fun h => hc (.inr h))]
    · have agree : ∀ id j, cov R1 id j ∨ cov R2 id j ∨ cov W1 id j ∨ cov W2 id j → look t.h id j = look s.h id j := fun id j h => t3 id j (by
        rw [cov_append, cov_append]
        rcases h with h | h | h | h
        · exact .inl (.inr h)
        · exact .inl (.inl h)
        · exact .inr (.inr h)
        · exact .inr (.inl h))
      obtain ⟨v, v1, v2, v3, v4, v5, v6⟩ := r1.also t t1 t2 (fun id j h => agree id j (by rcases h with h | h; exact .inl h; exact .inr (.inr (.inl h))))
      obtain ⟨w, w1, w2, w3, w4, w5, w6⟩ := r2.also v (v3.trans a1.symm) v2 (fun id j h => by
        by_cases hc : cov W1 id j
        · exact v5 id j hc
        · rw [v6 id j hc, r1.off id j hc]
          exact agree id j (by rcases h with h | h; exact .inr (.inl h); exact .inr (.inr (.inr h))))
      refine ⟨w, by simp only [M.bind, v1]; exact w1, w2, w3.trans a1, fun htr => ?_, fun id j hc => ?_, fun id j hc => ?_⟩
      · obtain ⟨c1, c2⟩ := v4 htr
        obtain ⟨d1, d2⟩ := w4 (a1.trans htr)
        exact ⟨by rw [d1, c1, List.append_assoc], by rw [d2, c2, List.append_assoc]⟩
      · rw [cov_append] at hc
        by_cases h2 : cov W2 id j
        · exact w5 id j h2
        · rw [w6 id j h2, r2.off id j h2]
          exact v5 id j (hc.resolve_left h2)
      · rw [cov_append] at hc
        rw [w6 id j (fun h => hc (.inl h)), v6 id j (fun h => hc (.inr h))]
theorem Loc.apart {α : Type} {m : M α} (hm : Loc m) : Loc (M.apart m) := by
  intro s y s' h
  simp only [M.apart] at h
  cases hms : m ⟨true, s.h, s.n, [], []⟩ with
  | none => rw [hms] at h; cases h
  | some xu =>
    obtain ⟨x, u⟩ := xu
    rw [hms] at h
    simp only at h
    obtain ⟨a1, a2, a3, a4⟩ := hm ⟨true, s.h, s.n, [], []⟩ x u hms
    cases htr : s.tr <;> rw [htr] at h <;> simp only at h <;> cases h
    · refine ⟨rfl, a2, a3, fun hfr => ?_⟩
      obtain ⟨R1, W1, r1⟩ := a4 hfr
      obtain ⟨l1, l2⟩ := r1.log rfl
      simp only [List.append_nil] at l1 l2
      refine ⟨R1, W1, ⟨fun h => (by rw [htr] at h; cases h), r1.off, fun t t1 t2 t3 => ?_⟩⟩
      obtain ⟨v, v1, v2, v3, v4, v5, v6⟩ := r1.also ⟨true, t.h, t.n, [], []⟩ rfl t2 t3
      obtain ⟨c1, c2⟩ := v4 rfl
      simp only [List.append_nil] at c1 c2
      refine ⟨⟨false, v.h, v.n, t.r, t.w⟩, ?_, v2, htr.symm, fun h => (by rw [htr] at h; cases h), v5, v6⟩
      simp only [M.apart, v1, t1, htr, c1, c2, l1, l2]
    · refine ⟨rfl, a2, a3, fun hfr => ?_⟩
      obtain ⟨R1, W1, r1⟩ := a4 hfr
      obtain ⟨l1, l2⟩ := r1.log rfl
      simp only [List.append_nil] at l1 l2
      refine ⟨R1, W1, ⟨fun _ => ⟨by rw [l1], by rw [l2]⟩, r1.off, fun t t1 t2 t3 => ?_⟩⟩
      obtain ⟨v, v1, v2, v3, v4, v5, v6⟩ := r1.also ⟨true, t.h, t.n, [], []⟩ rfl t2 t3
      obtain ⟨c1, c2⟩ := v4 rfl
      simp only [List.append_nil] at c1 c2
      refine ⟨⟨true, v.h, v.n, v.r ++ t.r, v.w ++ t.w⟩, ?_, v2, htr.symm, fun _ => ⟨by rw [c1], by rw [c2]⟩, v5, v6⟩
      simp only [M.apart, v1, t1, htr, c1, c2, l1, l2]
end Ev
end Go.Proofs.YthknbcbkibbncaaGreat

/- DERIVED. What an evaluation reads and writes is all that it hangs on and all that it turns: the words of memory, the operations. -/
namespace Go.Proofs.YthknbcbkibbncaaGreat
namespace Ev
open Classical

/-- a step that reads, and one that writes, said at once -/
theorem Loc.of_read {α : Type} {m : M α} (hm : ∀ s a s', m s = some (a, s') → s'.tr = s.tr ∧ s'.n = s.n ∧ s'.h = s.h ∧ ∃ R, (s.tr = true → s'.r = R ++ s.r ∧ s'.w = s.w) ∧
    ∀ t : S, t.tr = s.tr → t.n = s.n → (∀ id j, cov R id j → look t.h id j = look s.h id j) → ∃ t', m t = some (a, t') ∧ t'.n = t.n ∧ t'.tr = t.tr ∧ t'.h = t.h ∧ (s.tr = true → t'.r = R ++ t.r ∧ t'.w = t.w)) : Loc m := by
  intro s a s' h
  obtain ⟨h1, h2, h3, R, h4, h5⟩ := hm s a s' h
  refine ⟨h1, by rw [h2]; exact Nat.le_refl _, fun id hid => .inl (by rw [h3]; exact hid), fun _ => ⟨R, [], ⟨fun htr => ⟨(h4 htr).1, by simpa using (h4 htr).2⟩, fun id j _ => by rw [h3], fun t t1 t2 t3 => ?_⟩⟩⟩
  obtain ⟨t', g1, g2, g3, g4, g5⟩ := h5 t t1 t2 (fun id j h => t3 id j (.inl h))
  exact ⟨t', g1, by rw [g2, t2, h2], g3.trans t1, fun htr => ⟨(g5 htr).1, by simpa using (g5 htr).2⟩, fun id j h => absurd h (cov_nil id j), fun id j _ => by rw [g4]⟩

theorem logR_all (s : S) (id : Id) (lo m : Nat) : (M.logR s id lo m).tr = s.tr ∧ (M.logR s id lo m).h = s.h ∧ (M.logR s id lo m).n = s.n ∧ (M.logR s id lo m).w = s.w ∧ (s.tr = true → (M.logR s id lo m).r = ⟨id, lo, m⟩ :: s.r) := by
  unfold M.logR
  cases h : s.tr <;> simp [h]
theorem logW_all (s : S) (id : Id) (lo m : Nat) : (M.logW s id lo m).tr = s.tr ∧ (M.logW s id lo m).h = s.h ∧ (M.logW s id lo m).n = s.n ∧ (M.logW s id lo m).r = s.r ∧ (s.tr = true → (M.logW s id lo m).w = ⟨id, lo, m⟩ :: s.w) := by
  unfold M.logW
  cases h : s.tr <;> simp [h]

/-- The same cells at some places: the same part of the block. -/
theorem part_same {h h' : Heap} {id : Id} {k : Blk} (hk : h id = some k) {lo m : Nat} (hm : 1 ≤ m) (hle : lo + m ≤ k.c.length) (hag : ∀ j, lo ≤ j → j < lo + m → look h' id j = look h id j) :
    ∃ k', h' id = some k' ∧ lo + m ≤ k'.c.length ∧ (k'.c.drop lo).take m = (k.c.drop lo).take m := by
  have h1 := hag lo (Nat.le_refl _) (by omega)
  rw [look_cell hk (by omega)] at h1
  obtain ⟨k', hk', _⟩ := look_inl h1
  have hlast := hag (lo + m - 1) (by omega) (by omega)
  rw [look_cell hk (by omega)] at hlast
  obtain ⟨k2, hk2, hj2, _⟩ := look_inl hlast
  obtain rfl : k2 = k' := by rw [hk'] at hk2; cases hk2; rfl
  refine ⟨k2, hk', by omega, ?_⟩
  apply List.ext_getElem?
  intro j
  by_cases hj : j < m
  · rw [List.getElem?_take, List.getElem?_take, if_pos hj, if_pos hj, List.getElem?_drop, List.getElem?_drop]
    have h3 := hag (lo + j) (by omega) (by omega)
    rw [look_cell hk (by omega), look_cell hk' (by omega)] at h3
    simp only [Option.some.injEq, Sum.inl.injEq] at h3
    rw [List.getElem?_eq_getElem (by omega), List.getElem?_eq_getElem (by omega), h3]
  · rw [List.getElem?_take, List.getElem?_take, if_neg hj, if_neg hj]
/-- The whole block the same. -/
theorem blk_same {h h' : Heap} {id : Id} {k : Blk} (hk : h id = some k) (hag : ∀ j, j < k.c.length + 1 → look h' id j = look h id j) : h' id = some k := by
  have h1 := hag k.c.length (by omega)
  rw [look_end hk] at h1
  obtain ⟨k', hk', hl, hz, _⟩ := look_inr h1
  rw [hk']
  congr 1
  obtain ⟨z, c⟩ := k
  obtain ⟨z', c'⟩ := k'
  simp only at hl hz hag
  subst hz
  congr 1
  apply List.ext_getElem?
  intro j
  by_cases hj : j < c.length
  · have h3 := hag j (by omega)
    rw [look_cell hk hj, look_cell hk' (show j < c'.length by omega)] at h3
    simp only [Option.some.injEq, Sum.inl.injEq] at h3
    rw [List.getElem?_eq_getElem hj, List.getElem?_eq_getElem (by omega), h3]
  · rw [List.getElem?_eq_none (by omega), List.getElem?_eq_none (by omega)]

theorem Loc.rd (id : Id) (lo m : Nat) : Loc (M.rd id lo m) := by
  unfold M.rd
  cases h0 : Nat.beq m 0
  · have hm : 1 ≤ m := Nat.one_le_iff_ne_zero.2 (fun e => by subst e; simp at h0)
    refine Loc.of_read fun s a s' h => ?_
    simp only at h
    cases hk : s.h id with
    | none => rw [hk] at h; cases h
    | some k =>
      rw [hk] at h
      simp only at h
      cases hb : Nat.ble (lo + m) k.c.length <;> rw [hb] at h <;> simp only at h <;> cases h
      have hle := Nat.le_of_ble_eq_true hb
      obtain ⟨l1, l2, l3, l4, l5⟩ := logR_all s id lo m
      refine ⟨l1, l3, l2, [⟨id, lo, m⟩], fun htr => ⟨l5 htr, l4⟩, fun t t1 t2 t3 => ?_⟩
      obtain ⟨k', hk', hle', he⟩ := part_same hk hm hle (fun j j1 j2 => t3 id j ((cov_one id j).2 ⟨rfl, j1, j2⟩))
      obtain ⟨q1, q2, q3, q4, q5⟩ := logR_all t id lo m
      exact ⟨M.logR t id lo m, by simp only [hk', Nat.ble_eq_true_of_le hle', he], q3, q1, q2, fun htr => ⟨q5 (t1.trans htr), q4⟩⟩
  · exact Loc.pure _
theorem Loc.shared (id : Id) : Loc (M.shared id) := by
  refine Loc.of_read fun s a s' h => ?_
  unfold M.shared at h
  cases hk : s.h id with
  | none => rw [hk] at h; cases h
  | some k =>
    rw [hk] at h
    simp only at h
    cases hm : k.z.m with
    | some x => rw [hm] at h; cases h
    | none =>
      rw [hm] at h
      simp only at h
      cases h
      obtain ⟨l1, l2, l3, l4, l5⟩ := logR_all s id k.c.length 1
      refine ⟨l1, l3, l2, [⟨id, k.c.length, 1⟩], fun htr => ⟨l5 htr, l4⟩, fun t t1 t2 t3 => ?_⟩
      have := t3 id k.c.length ((cov_one id _).2 ⟨rfl, Nat.le_refl _, Nat.lt_succ_self _⟩)
      rw [look_end hk] at this
      obtain ⟨k', hk', hl, hz, _⟩ := look_inr this
      obtain ⟨q1, q2, q3, q4, q5⟩ := logR_all t id k.c.length 1
      exact ⟨M.logR t id k.c.length 1, by unfold M.shared; simp only [hk', hl, hz, hm], q3, q1, q2, fun htr => ⟨q5 (t1.trans htr), q4⟩⟩
theorem Loc.ends (id : Id) : Loc (M.ends id) := by
  refine Loc.of_read fun s a s' h => ?_
  unfold M.ends at h
  cases hk : s.h id with
  | none => rw [hk] at h; cases h
  | some k =>
    rw [hk] at h
    simp only at h
    cases hm : k.z.m with
    | some x => rw [hm] at h; cases h
    | none =>
      rw [hm] at h
      simp only at h
      cases h
      obtain ⟨l1, l2, l3, l4, l5⟩ := logR_all s id k.c.length 1
      refine ⟨l1, l3, l2, [⟨id, k.c.length, 1⟩], fun htr => ⟨l5 htr, l4⟩, fun t t1 t2 t3 => ?_⟩
      have := t3 id k.c.length ((cov_one id _).2 ⟨rfl, Nat.le_refl _, Nat.lt_succ_self _⟩)
      rw [look_end hk] at this
      obtain ⟨k', hk', hl, hz, _⟩ := look_inr this
      obtain ⟨q1, q2, q3, q4, q5⟩ := logR_all t id k.c.length 1
      exact ⟨M.logR t id k.c.length 1, by unfold M.ends; simp only [hk', hl, hz, hm], q3, q1, q2, fun htr => ⟨q5 (t1.trans htr), q4⟩⟩
theorem Loc.rdM (id : Id) : Loc (M.rdM id) := by
  refine Loc.of_read fun s a s' h => ?_
  unfold M.rdM at h
  cases hk : s.h id with
  | none => rw [hk] at h; cases h
  | some k =>
    rw [hk] at h
    simp only at h
    cases hm : k.z.m with
    | none => rw [hm] at h; cases h
    | some x =>
      rw [hm] at h
      simp only at h
      cases h
      obtain ⟨l1, l2, l3, l4, l5⟩ := logR_all s id k.c.length 1
      refine ⟨l1, l3, l2, [⟨id, k.c.length, 1⟩], fun htr => ⟨l5 htr, l4⟩, fun t t1 t2 t3 => ?_⟩
      have := t3 id k.c.length ((cov_one id _).2 ⟨rfl, Nat.le_refl _, Nat.lt_succ_self _⟩)
      rw [look_end hk] at this
      obtain ⟨k', hk', hl, hz, _⟩ := look_inr this
      obtain ⟨q1, q2, q3, q4, q5⟩ := logR_all t id k.c.length 1
      exact ⟨M.logR t id k.c.length 1, by unfold M.rdM; simp only [hk', hl, hz, hm], q3, q1, q2, fun htr => ⟨q5 (t1.trans htr), q4⟩⟩
/-- What lies where a map was written. -/
theorem look_mark {h : Heap} {id : Id} {k : Blk} (hk : h id = some k) (z : Zf) (i : Id) (j : Nat) :
    look (Heap.put h id (some ⟨z, k.c⟩)) i j = if i = id ∧ j = k.c.length then some (Sum.inr (k.c.length, z)) else look h i j := by
  by_cases hi : i = id
  · subst hi
    unfold look
    rw [put_same, hk]
    simp only [true_and]
    by_cases hj : j < k.c.length
    · rw [if_pos hj, if_pos hj, if_neg (by omega)]
    · rw [if_neg hj, if_neg hj]
      by_cases he : j = k.c.length
      · rw [if_pos he, if_pos he]
      · rw [if_neg he, if_neg he, if_neg he]
  · rw [look_put_other _ _ _ hi, if_neg (fun h => hi h.1)]
theorem Loc.wrM (id : Id) (l : List AV) : Loc (M.wrM id l) := by
  intro s a s' h
  unfold M.wrM at h
  cases hk : s.h id with
  | none => rw [hk] at h; cases h
  | some k =>
    rw [hk] at h
    simp only at h
    cases hm : k.z.m with
    | none => rw [hm] at h; cases h
    | some x =>
      rw [hm] at h
      simp only at h
      cases h
      have build : ∀ (t : S) (hh : Heap), ∃ u : S, u = M.logW (M.logR ⟨t.tr, hh, t.n, t.r, t.w⟩ id k.c.length 1) id k.c.length 1 ∧ u.tr = t.tr ∧ u.h = hh ∧ u.n = t.n ∧ (t.tr = true → u.r = ⟨id, k.c.length, 1⟩ :: t.r ∧ u.w = ⟨id, k.c.length, 1⟩ :: t.w) := by
        intro t hh
        refine ⟨_, rfl, ?_⟩
        cases ht : t.tr <;> simp [M.logW, M.logR]
      obtain ⟨u, hu, u1, u2, u3, u4⟩ := build s (Heap.put s.h id (some ⟨⟨k.z.s, k.z.b, k.z.t, some l⟩, k.c⟩))
      rw [← hu]
      refine ⟨u1, by rw [u3]; exact Nat.le_refl _, fun i hi => ?_, fun _ => ⟨[⟨id, k.c.length, 1⟩], [⟨id, k.c.length, 1⟩], ⟨fun htr => u4 htr, fun i j hc => ?_, fun t t1 t2 t3 => ?_⟩⟩⟩
      · left
        rw [u2]
        have hne : i ≠ id := fun e => by rw [e, hk] at hi; cases hi
        simp only [Heap.put, if_neg (fun e => hne (Id.num_inj e))]
        exact hi
      · rw [u2, look_mark hk, if_neg]
        rintro ⟨rfl, h1⟩
        exact hc ((cov_one _ _).2 ⟨rfl, by omega, by omega⟩)
      · have h3 := t3 id k.c.length (.inl ((cov_one id _).2 ⟨rfl, Nat.le_refl _, Nat.lt_succ_self _⟩))
        rw [look_end hk] at h3
        obtain ⟨k', hk', hl, hz, _⟩ := look_inr h3
        obtain ⟨v, hv, v1, v2, v3, v4⟩ := build t (Heap.put t.h id (some ⟨⟨k.z.s, k.z.b, k.z.t, some l⟩, k'.c⟩))
        refine ⟨v, by unfold M.wrM; simp only [hk', hz, hm, hl]; rw [hv], by rw [v3, u3]; exact t2, v1.trans t1, fun htr => v4 (t1.trans htr), fun i j hc => ?_, fun i j hc => ?_⟩
        · rw [cov_one] at hc
          obtain ⟨rfl, h1, h2⟩ := hc
          rw [v2, u2, look_mark hk', look_mark hk, if_pos ⟨rfl, by omega⟩, if_pos ⟨rfl, by omega⟩, hl]
        · rw [v2, look_mark hk', if_neg]
          rintro ⟨rfl, h1⟩
          exact hc ((cov_one _ _).2 ⟨rfl, by omega, by omega⟩)
/-- What lies where a part of a block was written. -/
theorem look_write {h : Heap} {id : Id} {k : Blk} (hk : h id = some k) {lo : Nat} {l : List AV} (hle : lo + l.length ≤ k.c.length) (i : Id) (j : Nat) :
    look (Heap.put h id (some ⟨k.z, k.c.take lo ++ (l ++ k.c.drop (lo + l.length))⟩)) i j = if i = id ∧ lo ≤ j ∧ j < lo + l.length then l[j - lo]?.map Sum.inl else look h i j := by
  by_cases hi : i = id
  · subst hi
    have hlen : (k.c.take lo ++ (l ++ k.c.drop (lo + l.length))).length = k.c.length := by simp; omega
    unfold look
    rw [put_same, hk]
    simp only [hlen, true_and]
    by_cases hj : j < k.c.length
    · rw [if_pos hj, if_pos hj]
      by_cases h1 : lo ≤ j ∧ j < lo + l.length
      · rw [if_pos h1, List.getElem?_append_right (by rw [List.length_take]; omega), List.length_take, Nat.min_eq_left (by omega), List.getElem?_append_left (by omega)]
      · rw [if_neg h1]
        by_cases h2 : j < lo
        · rw [List.getElem?_append_left (by rw [List.length_take]; omega), List.getElem?_take, if_pos h2]
        · rw [List.getElem?_append_right (by rw [List.length_take]; omega), List.length_take, Nat.min_eq_left (by omega), List.getElem?_append_right (by omega), List.getElem?_drop, show lo + l.length + (j - lo - l.length) = j by omega]
    · have h3 : ¬ (lo ≤ j ∧ j < lo + l.length) := by omega
      rw [if_neg h3]
      simp only [if_neg hj]
  · rw [look_put_other _ _ _ hi, if_neg (fun h => hi h.1)]
theorem Loc.wr (id : Id) (lo : Nat) (l : List AV) : Loc (M.wr id lo l) := by
  unfold M.wr
  cases h0 : l.isEmpty
  · have hm : 1 ≤ l.length := by cases l; cases h0; simp
    intro s a s' h
    simp only at h
    cases hk : s.h id with
    | none => rw [hk] at h; cases h
    | some k =>
      rw [hk] at h
      simp only at h
      cases hb : Nat.ble (lo + l.length) k.c.length <;> rw [hb] at h <;> simp only at h <;> cases h
      have hle := Nat.le_of_ble_eq_true hb
      obtain ⟨l1, l2, l3, l4, l5⟩ := logW_all ⟨s.tr, Heap.put s.h id (some ⟨k.z, k.c.take lo ++ (l ++ k.c.drop (lo + l.length))⟩), s.n, s.r, s.w⟩ id lo l.length
      refine ⟨l1, by rw [l3]; exact Nat.le_refl _, ?_, fun _ => ⟨[], [⟨id, lo, l.length⟩], ⟨fun htr => ⟨l4, l5 htr⟩, fun i j hc => ?_, fun t t1 t2 t3 => ?_⟩⟩⟩
      · intro i hi
        left
        rw [l2]
        have hne : i ≠ id := fun e => by rw [e, hk] at hi; cases hi
        simp only [Heap.put, if_neg (fun e => hne (Id.num_inj e))]
        exact hi
      · rw [l2, look_write hk hle, if_neg]
        rintro ⟨rfl, h1, h2⟩
        exact hc ((cov_one _ _).2 ⟨rfl, h1, h2⟩)
      · obtain ⟨k', hk', hle', _⟩ := part_same hk hm hle (fun j j1 j2 => t3 id j (.inr ((cov_one id j).2 ⟨rfl, j1, j2⟩)))
        obtain ⟨q1, q2, q3, q4, q5⟩ := logW_all ⟨t.tr, Heap.put t.h id (some ⟨k'.z, k'.c.take lo ++ (l ++ k'.c.drop (lo + l.length))⟩), t.n, t.r, t.w⟩ id lo l.length
        refine ⟨_, by simp only [hk', Nat.ble_eq_true_of_le hle'], ?_, q1.trans t1, fun htr => ⟨q4, q5 (t1.trans htr)⟩, fun i j hc => ?_, fun i j hc => ?_⟩
        · rw [q3, l3]; exact t2
        · rw [cov_one] at hc
          obtain ⟨rfl, h1, h2⟩ := hc
          rw [q2, l2, look_write hk' hle', look_write hk hle, if_pos ⟨rfl, h1, h2⟩, if_pos ⟨rfl, h1, h2⟩]
        · rw [q2, look_write hk' hle', if_neg]
          rintro ⟨rfl, h1, h2⟩
          exact hc ((cov_one _ _).2 ⟨rfl, h1, h2⟩)
  · exact Loc.pure _
theorem look_new (h : Heap) (id : Id) (b : Blk) (i : Id) (j : Nat) (hfree : h id = none) :
    look (Heap.put h id (some b)) i j = if i = id ∧ j < b.c.length + 1 then (if j < b.c.length then b.c[j]?.map Sum.inl else some (Sum.inr (b.c.length, b.z))) else look h i j := by
  by_cases hi : i = id
  · subst hi
    unfold look
    rw [put_same, hfree]
    simp only [true_and]
    by_cases h1 : j < b.c.length
    · rw [if_pos h1, if_pos (by omega), if_pos h1]
    · rw [if_neg h1]
      by_cases h2 : j = b.c.length
      · rw [if_pos h2, if_pos (by omega), if_neg h1]
      · rw [if_neg h2, if_neg (by omega)]
  · rw [look_put_other _ _ _ hi, if_neg (fun h => hi h.1)]
theorem Loc.new (z : Zf) (l : List AV) : Loc (M.new z l) := by
  intro s a s' h
  unfold M.new at h
  cases hn : s.n.inc with
  | none => rw [hn] at h; cases h
  | some n =>
    rw [hn] at h
    simp only at h
    cases h
    have hnum := Id.inc_num hn
    obtain ⟨l1, l2, l3, l4, l5⟩ := logW_all ⟨s.tr, Heap.put s.h s.n (some ⟨z, l⟩), n, s.r, s.w⟩ s.n 0 (l.length + 1)
    refine ⟨l1, by rw [l3]; simp only; omega, fun i hi => ?_, fun hf => ?_⟩
    · rw [l3, l2]
      simp only
      by_cases e : i.num = s.n.num
      · exact .inr ⟨by omega, by omega⟩
      · left
        simp only [Heap.put, if_neg e]
        exact hi
    have hfree := hf s.n (Nat.le_refl _) (by rw [l3]; simp only; omega)
    refine ⟨[], [⟨s.n, 0, l.length + 1⟩], ⟨fun htr => ⟨l4, l5 htr⟩, fun i j hc => ?_, fun t t1 t2 t3 => ?_⟩⟩
    · rw [l2, look_new _ _ _ _ _ hfree, if_neg]
      rintro ⟨rfl, h1⟩
      exact hc ((cov_one _ _).2 ⟨rfl, by omega, by simpa using h1⟩)
    · have hfree' : t.h s.n = none := by
        have := t3 s.n 0 (.inr ((cov_one _ _).2 ⟨rfl, by omega, by omega⟩))
        rw [look_none.2 hfree] at this
        exact look_none.1 this
      obtain ⟨q1, q2, q3, q4, q5⟩ := logW_all ⟨t.tr, Heap.put t.h s.n (some ⟨z, l⟩), n, t.r, t.w⟩ s.n 0 (l.length + 1)
      refine ⟨_, by unfold M.new; simp only [t2, hn], by rw [q3, l3], q1.trans t1, fun htr => ⟨q4, q5 (t1.trans htr)⟩, fun i j hc => ?_, fun i j hc => ?_⟩
      · rw [cov_one] at hc
        obtain ⟨rfl, h1, h2⟩ := hc
        have hcnd : s.n = s.n ∧ j < (⟨z, l⟩ : Blk).c.length + 1 := ⟨rfl, by simpa using h2⟩
        rw [q2, l2]
        simp only
        rw [look_new _ _ _ _ _ hfree, look_new _ _ _ _ _ hfree', if_pos hcnd, if_pos hcnd]
      · rw [q2, look_new _ _ _ _ _ hfree', if_neg]
        rintro ⟨rfl, h1⟩
        exact hc ((cov_one _ _).2 ⟨rfl, by omega, by simpa using h1⟩)
theorem look_gone {h : Heap} {id : Id} {k : Blk} (hk : h id = some k) (i : Id) (j : Nat) : look (Heap.put h id none) i j = if i = id ∧ j < k.c.length + 1 then none else look h i j := by
  by_cases hi : i = id
  · subst hi
    unfold look
    rw [put_same, hk]
    simp only [true_and]
    by_cases h1 : j < k.c.length
    · rw [if_pos (by omega)]
    · by_cases h2 : j = k.c.length
      · rw [if_pos (by omega)]
      · rw [if_neg (by omega), if_neg h1, if_neg h2]
  · rw [look_put_other _ _ _ hi, if_neg (fun h => hi h.1)]
theorem Loc.over (id : Id) (lo m : Nat) (l : List AV) : Loc (M.over id lo m l) := by
  intro s a s' h
  unfold M.over at h
  cases hk : s.h id with
  | none => rw [hk] at h; cases h
  | some k =>
    rw [hk] at h
    simp only at h
    cases hb : (k.z.m.isNone && Nat.ble (lo + m) k.c.length) <;> rw [hb] at h <;> simp only at h
    · cases h
    cases hn : s.n.inc with
    | none => rw [hn] at h; cases h
    | some n =>
      rw [hn] at h
      simp only at h
      cases h
      have hle := Nat.le_of_ble_eq_true ((Bool.and_eq_true _ _).mp hb).2
      have hnum := Id.inc_num hn
      have build : ∀ (tr : Bool) (hh : Heap) (r w : List Rng), ∃ u : S, u = M.logW (M.logW (M.logR ⟨tr, hh, n, r, w⟩ id 0 (k.c.length + 1)) id 0 (k.c.length + 1)) s.n 0 (m + l.length + 1) ∧ u.tr = tr ∧ u.h = hh ∧ u.n = n ∧ (tr = true → u.r = ⟨id, 0, k.c.length + 1⟩ :: r ∧ u.w = ⟨s.n, 0, m + l.length + 1⟩ :: ⟨id, 0, k.c.length + 1⟩ :: w) := by
        intro tr hh r w
        refine ⟨_, rfl, ?_⟩
        cases tr <;> simp [M.logW, M.logR]
      obtain ⟨u, hu, u1, u2, u3, u4⟩ := build s.tr (Heap.put (Heap.put s.h id none) s.n (some ⟨k.z.over lo, (k.c.drop lo).take m ++ l⟩)) s.r s.w
      rw [← hu]
      refine ⟨u1, by rw [u3]; omega, fun i hi => ?_, fun hf => ?_⟩
      · rw [u2, u3]
        by_cases e : i.num = s.n.num
        · exact .inr ⟨by omega, by omega⟩
        · left
          simp only [Heap.put, if_neg e]
          by_cases hi2 : i.num = id.num
          · rw [if_pos hi2]
          · rw [if_neg hi2]; exact hi
      have hfree := hf s.n (Nat.le_refl _) (by rw [u3]; omega)
      have hne : s.n ≠ id := fun e => by rw [e, hk] at hfree; cases hfree
      have hlb : ((k.c.drop lo).take m ++ l).length = m + l.length := by simp; omega
      have fr : ∀ t : S, t.h s.n = none → (Heap.put t.h id none) s.n = none := fun t ht => by simp only [Heap.put, if_neg (fun e => hne (Id.num_inj e))]; exact ht
      have both : ∀ t : S, t.h id = some k → t.h s.n = none → ∀ i j, look (Heap.put (Heap.put t.h id none) s.n (some ⟨k.z.over lo, (k.c.drop lo).take m ++ l⟩)) i j =
          if i = s.n ∧ j < m + l.length + 1 then (if j < m + l.length then ((k.c.drop lo).take m ++ l)[j]?.map Sum.inl else some (Sum.inr (m + l.length, k.z.over lo))) else if i = id ∧ j < k.c.length + 1 then none else look t.h i j := by
        intro t hk' hfree' i j
        rw [look_new _ _ _ _ _ (fr t hfree'), look_gone hk']
        simp only [hlb]
      refine ⟨[⟨id, 0, k.c.length + 1⟩], [⟨s.n, 0, m + l.length + 1⟩, ⟨id, 0, k.c.length + 1⟩], ⟨fun htr => u4 htr, fun i j hc => ?_, fun t t1 t2 t3 => ?_⟩⟩
      · rw [u2, both s hk hfree, if_neg, if_neg]
        · rintro ⟨rfl, h1⟩
          exact hc ⟨⟨i, 0, k.c.length + 1⟩, by simp, rfl, by simp, by simpa using h1⟩
        · rintro ⟨rfl, h1⟩
          exact hc ⟨⟨s.n, 0, m + l.length + 1⟩, by simp, rfl, by simp, by simpa using h1⟩
      · have hk' : t.h id = some k := blk_same hk (fun j hj => t3 id j (.inl ((cov_one _ _).2 ⟨rfl, by omega, by simpa using hj⟩)))
        have hfree' : t.h s.n = none := by
          have := t3 s.n 0 (.inr ⟨⟨s.n, 0, m + l.length + 1⟩, by simp, rfl, by simp, by simp⟩)
          rw [look_none.2 hfree] at this
          exact look_none.1 this
        obtain ⟨v, hv, v1, v2, v3, v4⟩ := build t.tr (Heap.put (Heap.put t.h id none) s.n (some ⟨k.z.over lo, (k.c.drop lo).take m ++ l⟩)) t.r t.w
        refine ⟨v, by unfold M.over; simp only [hk', hb, t2, hn]; rw [hv], by rw [v3, u3], v1.trans t1, fun htr => v4 (t1.trans htr), fun i j hc => ?_, fun i j hc => ?_⟩
        · rw [v2, u2, both t hk' hfree', both s hk hfree]
          by_cases h1 : i = s.n ∧ j < m + l.length + 1
          · rw [if_pos h1, if_pos h1]
          · rw [if_neg h1, if_neg h1]
            by_cases h2 : i = id ∧ j < k.c.length + 1
            · rw [if_pos h2, if_pos h2]
            · exfalso
              obtain ⟨r, hr, e1, e2, e3⟩ := hc
              simp at hr
              rcases hr with rfl | rfl
              · exact h1 ⟨e1.symm, by simpa using e3⟩
              · exact h2 ⟨e1.symm, by simpa using e3⟩
        · rw [v2, both t hk' hfree', if_neg, if_neg]
          · rintro ⟨rfl, h1⟩
            exact hc ⟨⟨i, 0, k.c.length + 1⟩, by simp, rfl, by simp, by simpa using h1⟩
          · rintro ⟨rfl, h1⟩
            exact hc ⟨⟨s.n, 0, m + l.length + 1⟩, by simp, rfl, by simp, by simpa using h1⟩
end Ev
end Go.Proofs.YthknbcbkibbncaaGreat

/- DERIVED. What an evaluation reads and writes is all that it hangs on and all that it turns: operations, rows, code, functions. -/
namespace Go.Proofs.YthknbcbkibbncaaGreat
namespace Ev

theorem Loc.firstL (w n : Nat) (v : AV) : Loc (firstL w n v) := by
  cases v <;> simp only [Ev.firstL] <;> first | exact Loc.pure _ | exact Loc.rd _ _ _ | exact Loc.ifB (Loc.pure _) | exact Loc.no
theorem Loc.grow (z : Bool) (w : Nat) (s : AV) (n : Nat) (new : List AV) : Loc (grow z w s n new) := by
  cases s <;> simp only [Ev.grow] <;> first | exact Loc.no | skip
  · cases Nat.beq n 0
    · exact Loc.bind (Loc.new _ _) fun _ => Loc.pure _
    · exact Loc.pure _
  · cases Nat.ble _ _
    · exact Loc.ifB (Loc.bind (Loc.rd _ _ _) fun _ => Loc.bind (Loc.new _ _) fun _ => Loc.pure _)
    · exact Loc.bind (Loc.wr _ _ _) fun _ => Loc.pure _
  · refine Loc.ifB ?_
    cases Nat.ble _ _
    · exact Loc.ifB (Loc.bind (Loc.over _ _ _ _) fun _ => Loc.pure _)
    · exact Loc.bind (Loc.wr _ _ _) fun _ => Loc.pure _
theorem Loc.cpyF (w : Nat) (d x : AV) : Loc (cpyF w d x) := by
  refine Loc.ofO fun m => ?_
  cases d <;> first
    | exact Loc.no
    | exact Loc.pure _
    | exact Loc.bind (Loc.firstL _ _ _) fun _ => Loc.bind (Loc.wr _ _ _) fun _ => Loc.pure _
theorem Loc.clrF (cs : List AV) (d : AV) : Loc (clrF cs d) := by
  cases d <;> first
    | exact Loc.no
    | exact Loc.pure _
    | exact Loc.bind (Loc.wr _ _ _) fun _ => Loc.pure _
theorem Loc.eqP (i : Id) (p : Nat) (j : Id) (q : Nat) : Loc (eqP i p j q) := by
  unfold Ev.eqP
  cases Nat.beq _ _
  · exact Loc.bind (Loc.shared _) fun _ => Loc.bind (Loc.shared _) fun _ => Loc.ifB (Loc.pure _)
  · exact Loc.pure _
theorem Loc.eqK (kd : Nat) (x y : AV) : Loc (eqK kd x y) := by
  unfold Ev.eqK
  split
  · cases x <;> first | exact Loc.no | (cases y <;> first | exact Loc.no | exact Loc.pure _)
  · cases x <;> first | exact Loc.no | (cases y <;> first | exact Loc.no | exact Loc.pure _ | exact Loc.eqP _ _ _ _)
  · cases x <;> first | exact Loc.no | (cases y <;> first | exact Loc.no | exact Loc.pure _)
  · cases x <;> first | exact Loc.no | (cases y <;> first | exact Loc.no | exact Loc.pure _)
  · cases x <;> first | exact Loc.no | skip
    cases y <;> first | exact Loc.no | skip
    unfold Ev.eqG
    dsimp only
    cases Nat.beq _ _
    · exact Loc.no
    · exact Loc.ofO fun _ => Loc.pure _
theorem Loc.strF (o : BinOp) (x : List Nat) (y : AV) : Loc (strF o x y) := by
  cases y <;> first | exact Loc.no | skip
  cases o <;> first | exact Loc.no | exact Loc.pure _ | exact Loc.ifB (Loc.pure _)
theorem Loc.intF (o : BinOp) (k : IntKind) (x : Int) (k' : IntKind) (y : Int) : Loc (intF o k x k' y) := by
  cases o <;> first | exact Loc.ofO fun _ => Loc.pure _ | exact Loc.ifB (Loc.ofO fun _ => Loc.pure _)
theorem Loc.binF (o : BinOp) (x y : AV) : Loc (binF o x y) := by
  cases x <;> first | exact Loc.no | exact Loc.strF _ _ _ | skip
  cases y <;> first | exact Loc.no | exact Loc.intF _ _ _ _ _
theorem Loc.cvtL (l : List AV) : Loc (cvtL l) := Loc.ofO fun _ => Loc.pure _
theorem Loc.cvtF (x : AV) : Loc (cvtF x) := by
  cases x <;> first | exact Loc.no | exact Loc.pure _ | exact Loc.bind (Loc.rd _ _ _) fun _ => Loc.cvtL _
theorem Loc.cvmF (x : AV) : Loc (cvmF x) := by
  cases x <;> first | exact Loc.no | exact Loc.bind (Loc.shared _) fun _ => Loc.ifB (Loc.pure _)
theorem Loc.cvbF (x : AV) : Loc (cvbF x) := by
  cases x <;> first | exact Loc.no | exact Loc.ifB (Loc.bind (Loc.new _ _) fun _ => Loc.pure _)
theorem Loc.mksF (z : Bool) (cs : List AV) (l c : AV) : Loc (mksF z cs l c) :=
  Loc.ofO fun _ => Loc.ofO fun _ => Loc.ifB (Loc.bind (Loc.new _ _) fun _ => Loc.pure _)
theorem Loc.ixaF (n w : Nat) (x i : AV) : Loc (ixaF n w x i) := Loc.ofO fun _ => by
  cases x <;> first | exact Loc.no | exact Loc.ifB (Loc.pure _)
theorem Loc.ixsF (w : Nat) (x i : AV) : Loc (ixsF w x i) := Loc.ofO fun _ => by
  cases x <;> first | exact Loc.no | exact Loc.ifB (Loc.pure _)
theorem Loc.ldF (x : AV) : Loc (ldF x) := by
  cases x <;> first | exact Loc.no | skip
  refine Loc.bind (Loc.rd _ _ _) fun l => ?_
  split
  · exact Loc.pure _
  · exact Loc.no
theorem Loc.ldnF (m : Nat) (x : AV) : Loc (ldnF m x) := by
  cases x <;> first | exact Loc.no | exact Loc.bind (Loc.rd _ _ _) fun _ => Loc.pure _
theorem Loc.stF (m : Nat) (x v : AV) : Loc (stF m x v) := by
  cases x <;> first | exact Loc.no | exact Loc.ofO fun _ => Loc.ifB (Loc.bind (Loc.wr _ _ _) fun _ => Loc.pure _)
theorem Loc.fadF (off : Nat) (x : AV) : Loc (fadF off x) := by
  cases x <;> first | exact Loc.no | exact Loc.pure _
theorem Loc.lkF (q : Option Nat) (z : AV) (ok : Bool) (x k : AV) : Loc (lkF q z ok x k) := by
  refine Loc.ifB ?_
  cases x <;> first
    | exact Loc.no
    | exact Loc.pure _
    | exact Loc.bind (Loc.rdM _) fun l => Loc.ofO fun nl => Loc.ofO fun r => by cases r <;> exact Loc.pure _
theorem Loc.mupF (q : Option Nat) (x k v : AV) : Loc (mupF q x k v) := by
  refine Loc.ifB ?_
  cases x <;> first
    | exact Loc.no
    | exact Loc.bind (Loc.rdM _) fun l => Loc.ofO fun nl => Loc.ofO fun r => Loc.bind (Loc.wrM _ _) fun _ => Loc.pure _
theorem Loc.menF (q : Option Nat) (z x k : AV) : Loc (menF q z x k) := by
  refine Loc.ifB ?_
  cases x <;> first
    | exact Loc.no
    | exact Loc.bind (Loc.rdM _) fun l => Loc.ofO fun nl => Loc.ofO fun r => by cases r <;> exact Loc.bind (Loc.wrM _ _) fun _ => Loc.pure _
theorem Loc.mesF (x b v : AV) : Loc (mesF x b v) := by
  cases x <;> first
    | exact Loc.no
    | exact Loc.bind (Loc.rdM _) fun l => Loc.ofO fun nl => Loc.ofO fun r => Loc.bind (Loc.wrM _ _) fun _ => Loc.pure _
theorem Loc.delF (q : Option Nat) (x k : AV) : Loc (delF q x k) := by
  refine Loc.ifB ?_
  cases x <;> first
    | exact Loc.no
    | exact Loc.pure _
    | exact Loc.bind (Loc.rdM _) fun l => Loc.ofO fun nl => Loc.ofO fun r => by
        cases r
        · exact Loc.pure _
        · exact Loc.bind (Loc.wrM _ _) fun _ => Loc.pure _
theorem Loc.lnmF (x : AV) : Loc (lnmF x) := by
  cases x <;> first
    | exact Loc.no
    | exact Loc.pure _
    | exact Loc.bind (Loc.rdM _) fun l => Loc.ofO fun nl => Loc.pure _
theorem Loc.fldF (off m : Nat) (ag : Bool) (x : AV) : Loc (fldF off m ag x) := by
  unfold Ev.fldF
  cases x <;> first | exact Loc.no | skip
  rename_i xs
  dsimp only
  cases Nat.ble (off + m) xs.length
  · exact Loc.no
  · cases ag
    · exact Loc.ofO fun _ => Loc.pure _
    · exact Loc.pure _
theorem Loc.idxF (n w : Nat) (ag : Bool) (x i : AV) : Loc (idxF n w ag x i) := Loc.ofO fun _ => Loc.ifB (Loc.fldF _ _ _ _)
theorem Loc.ixtF (x i : AV) : Loc (ixtF x i) := Loc.ofO fun _ => by
  cases x <;> first | exact Loc.no | exact Loc.ofO fun _ => Loc.pure _
theorem Loc.sapF (n : Nat) (x : AV) : Loc (sapF n x) := by
  cases x <;> first | exact Loc.no | exact Loc.ifB (Loc.pure _)
theorem Loc.mkmF : Loc mkmF := Loc.bind (Loc.new _ _) fun _ => Loc.pure _
theorem Loc.nilF (x : AV) : Loc (nilF x) := by
  cases x <;> first | exact Loc.no | exact Loc.pure _
theorem Loc.extF (x : AV) (j : Nat) : Loc (extF x j) := by
  cases x <;> first | exact Loc.no | exact Loc.ofO fun _ => Loc.pure _
theorem Loc.pickF (c x y : AV) : Loc (pickF c x y) := by
  cases c <;> first | exact Loc.no | skip
  rename_i t
  cases t <;> exact Loc.pure _
theorem Loc.cviF (k : IntKind) (x : AV) : Loc (cviF k x) := by
  cases x <;> first | exact Loc.no | exact Loc.pure _
theorem Loc.cvsF (x : AV) : Loc (cvsF x) := by
  cases x <;> first | exact Loc.no | exact Loc.pure _
theorem Loc.newF (z : Bool) (l : List AV) : Loc (newF z l) := Loc.bind (Loc.new _ _) fun _ => Loc.pure _

/-- functions whose runs are local -/
structure LocF (F : Fns) : Prop where
  fn : ∀ f l, Loc (F.fn f l)
theorem Loc.callF {F : Fns} (hF : LocF F) (f : AV) (l : List AV) : Loc (callF F f l) := by
  cases f <;> first | exact Loc.no | exact hF.fn _ _
theorem Loc.poR {F : Fns} (hF : LocF F) (o : PO) (e : Env) : Loc (poR o F e) := by
  cases o <;> first
    | exact Loc.pure _
    | exact Loc.pickF _ _ _
    | exact Loc.newF _ _
    | exact Loc.ofO fun _ => Loc.newF _ _
    | exact Loc.ofO fun _ => Loc.pure _
    | exact Loc.ofO fun _ => Loc.bind (Loc.new _ _) fun _ => Loc.pure _
    | exact Loc.ldF _
    | exact Loc.ldnF _ _
    | exact Loc.stF _ _ _
    | exact Loc.nilF _
    | exact Loc.binF _ _ _
    | exact Loc.bind (Loc.eqK _ _ _) fun _ => Loc.pure _
    | exact Loc.cviF _ _
    | exact Loc.cvsF _
    | exact Loc.cvbF _
    | exact Loc.cvtF _
    | exact Loc.cvmF _
    | exact Loc.mksF _ _ _ _
    | exact Loc.fadF _ _
    | exact Loc.ixaF _ _ _ _
    | exact Loc.ixsF _ _ _
    | exact Loc.extF _ _
    | exact Loc.callF hF _ _
    | exact Loc.ofO fun _ => Loc.ifB (Loc.bind (Loc.firstL _ _ _) fun _ => Loc.grow _ _ _ _ _)
    | exact Loc.ofO fun _ => Loc.ifB (Loc.grow _ _ _ _ _)
    | exact Loc.cpyF _ _ _
    | exact Loc.clrF _ _
    | exact Loc.mkmF
    | exact Loc.lkF _ _ _ _ _
    | exact Loc.mupF _ _ _ _
    | exact Loc.delF _ _ _
    | exact Loc.lnmF _
    | exact Loc.menF _ _ _ _
    | exact Loc.mesF _ _ _
    | exact Loc.fldF _ _ _ _
    | exact Loc.idxF _ _ _ _ _
    | exact Loc.ixtF _ _
    | exact Loc.sapF _ _
    | exact Loc.no
theorem Loc.psV {F : Fns} (hF : LocF F) (o : PS) (e : Env) : Loc (psV o F e) := by
  unfold Ev.psV
  cases wanted o.g e
  · exact Loc.pure _
  · exact Loc.poR hF _ _
theorem Loc.psR {F : Fns} (hF : LocF F) (o : PS) (e : Env) : Loc (psR o F e) := Loc.bind (Loc.psV hF o e) fun _ => Loc.pure _
theorem Loc.opsR {F : Fns} (hF : LocF F) : ∀ (ops : List PS) (e : Env), Loc (opsR F ops e)
  | [], e => Loc.pure _
  | o :: l, e => Loc.bind (Loc.psR hF o e) fun e => Loc.opsR hF l e
theorem Loc.drwR {F : Fns} (hF : LocF F) : ∀ (ops : List PS) (ms : List Nat) (acc : List Ft) (i : Nat) (e : Env), Loc (drwR F ops ms acc i e)
  | [], _, _, _, e => Loc.pure _
  | o :: l, [], _, _, _ => Loc.no
  | o :: l, m :: ms, acc, i, e => by
    refine Loc.bind (Loc.apart (Loc.psR hF o e)) fun x => ?_
    cases acc.any _
    · exact Loc.drwR hF l ms _ _ _
    · exact Loc.no
theorem Loc.iter {b : Env → M (Option Ex × Env)} (hb : ∀ e, Loc (b e)) : ∀ (n : Nat) (e : Env), Loc (iter n b e)
  | 0, e => Loc.no
  | n + 1, e => by
    refine Loc.bind (hb e) fun r => ?_
    obtain ⟨ex, e1⟩ := r
    cases ex
    · exact Loc.iter hb n e1
    · exact Loc.pure _
theorem Loc.coR {F : Fns} (hF : LocF F) : ∀ (c : PC) (e : Env), Loc (coR F c e)
  | .skip, e => Loc.pure _
  | .ret, e => Loc.pure _
  | .exit id, e => Loc.pure _
  | .seq x y, e => by
    refine Loc.bind (Loc.coR hF x e) fun r => ?_
    obtain ⟨ex, e1⟩ := r
    cases ex
    · exact Loc.coR hF y e1
    · exact Loc.pure _
  | .cond c x y, e => by
    unfold Ev.coR
    cases arg c e <;> first | exact Loc.no | skip
    rename_i t
    cases t
    · exact Loc.coR hF y e
    · exact Loc.coR hF x e
  | .block id b, e => by
    refine Loc.bind (Loc.coR hF b e) fun r => ?_
    obtain ⟨ex, e1⟩ := r
    cases ex with
    | none => exact Loc.pure _
    | some ex =>
      cases ex with
      | ret => exact Loc.pure _
      | exit j =>
        simp only
        cases Nat.beq j id <;> exact Loc.pure _
  | .loop b, e => Loc.iter (fun e => Loc.coR hF b e) _ _
  | .reg ops, e => Loc.bind (Loc.opsR hF ops e) fun _ => Loc.pure _
  | .drw ops ms, e => Loc.bind (Loc.drwR hF ops ms [] 0 e) fun _ => Loc.pure _
theorem Loc.resL (e : Env) : ∀ l : List PR, Loc (resL e l)
  | [] => Loc.pure _
  | r :: l => by
    cases r
    · exact Loc.bind (Loc.resL e l) fun _ => Loc.pure _
    · exact Loc.bind (Loc.ldF _) fun _ => Loc.bind (Loc.resL e l) fun _ => Loc.pure _
    · exact Loc.bind (Loc.ldnF _ _) fun _ => Loc.bind (Loc.resL e l) fun _ => Loc.pure _
theorem Loc.run {own : Nat → List AV → M AV} (ho : ∀ k l, Loc (own k l)) (X : Nat → Option PF) : ∀ n, LocF (run own X n)
  | 0 => ⟨fun _ _ => Loc.no⟩
  | n + 1 => by
    have ih := Loc.run ho X n
    refine ⟨fun f l => ?_⟩
    show Loc (fnR own X (Ev.run own X n) f l)
    unfold fnR
    split
    · exact Loc.no
    · exact ho _ _
    · refine Loc.bind (Loc.coR ih _ _) fun r => ?_
      split
      · exact Loc.no
      · exact Loc.bind (Loc.resL _ _) fun _ => Loc.pure _
end Ev
end Go.Proofs.YthknbcbkibbncaaGreat
