/- DERIVED. What an evaluation reads and writes is all that it hangs on and all that it turns: the ground. -/
import Derived.Test.YtijnjnncgkhabaaEvR2
import Derived.Test.YtijnjnncgkhabaaEvC
namespace Go.Proofs.Ytijnjnncgkhabaa
namespace Ev

/-- what lies at a place: a cell, or, behind the last, what the block is -/
def look (h : Heap) (id : Id) (j : Nat) : Option (AV ⊕ (Nat × Zf)) := match h id with
  | none => none
  | some k => if j < k.c.length then k.c[j]?.map Sum.inl else if j = k.c.length then some (Sum.inr (k.c.length, k.z)) else none
def cov (l : List Rng) (id : Id) (j : Nat) : Prop := ∃ r ∈ l, r.id = id ∧ r.lo ≤ j ∧ j < r.lo + r.m
theorem cov_nil (id : Id) (j : Nat) : ¬ cov [] id j := by rintro ⟨r, h, _⟩; cases h
theorem cov_one {id' : Id} {lo m : Nat} (id : Id) (j : Nat) : cov [⟨id', lo, m⟩] id j ↔ id' = id ∧ lo ≤ j ∧ j < lo + m := by
  constructor
  · rintro ⟨r, h, h1⟩
    rw [List.mem_singleton] at h
    subst h
    exact h1
  · intro h
    exact ⟨_, List.mem_singleton.2 rfl, h⟩
theorem cov_append (l m : List Rng) (id : Id) (j : Nat) : cov (l ++ m) id j ↔ cov l id j ∨ cov m id j := by
  constructor
  · rintro ⟨r, h, h1⟩
    rcases List.mem_append.1 h with h | h
    · exact .inl ⟨r, h, h1⟩
    · exact .inr ⟨r, h, h1⟩
  · rintro (⟨r, h, h1⟩ | ⟨r, h, h1⟩)
    · exact ⟨r, List.mem_append.2 (.inl h), h1⟩
    · exact ⟨r, List.mem_append.2 (.inr h), h1⟩

theorem look_none {h : Heap} {id : Id} : look h id 0 = none ↔ h id = none := by
  unfold look
  cases hk : h id with
  | none => simp
  | some k =>
    simp only [reduceCtorEq, iff_false]
    by_cases h0 : 0 < k.c.length
    · simp [h0]
    · simp at h0
      simp [h0]
theorem look_cell {h : Heap} {id : Id} {k : Blk} (hk : h id = some k) {j : Nat} (hj : j < k.c.length) : look h id j = some (Sum.inl k.c[j]) := by
  unfold look
  rw [hk]
  simp [hj]
theorem look_end {h : Heap} {id : Id} {k : Blk} (hk : h id = some k) : look h id k.c.length = some (Sum.inr (k.c.length, k.z)) := by
  unfold look
  rw [hk]
  simp
theorem look_far {h : Heap} {id : Id} {k : Blk} (hk : h id = some k) {j : Nat} (hj : k.c.length < j) : look h id j = none := by
  unfold look
  rw [hk]
  simp only
  rw [if_neg (by omega), if_neg (by omega)]
theorem look_inl {h : Heap} {id : Id} {j : Nat} {v : AV} (hl : look h id j = some (Sum.inl v)) : ∃ k, h id = some k ∧ ∃ hj : j < k.c.length, k.c[j] = v := by
  unfold look at hl
  cases hk : h id with
  | none => rw [hk] at hl; cases hl
  | some k =>
    rw [hk] at hl
    simp only at hl
    by_cases hj : j < k.c.length
    · rw [if_pos hj] at hl
      simp [hj] at hl
      exact ⟨k, rfl, hj, hl⟩
    · rw [if_neg hj] at hl
      by_cases he : j = k.c.length
      · rw [if_pos he] at hl; cases hl
      · rw [if_neg he] at hl; cases hl
theorem look_inr {h : Heap} {id : Id} {j n : Nat} {z : Zf} (hl : look h id j = some (Sum.inr (n, z))) : ∃ k, h id = some k ∧ k.c.length = n ∧ k.z = z ∧ j = n := by
  unfold look at hl
  cases hk : h id with
  | none => rw [hk] at hl; cases hl
  | some k =>
    rw [hk] at hl
    simp only at hl
    by_cases hj : j < k.c.length
    · rw [if_pos hj] at hl
      simp [hj] at hl
    · rw [if_neg hj] at hl
      by_cases he : j = k.c.length
      · rw [if_pos he] at hl; simp at hl; exact ⟨k, rfl, hl.1, hl.2, he.trans hl.1⟩
      · rw [if_neg he] at hl; cases hl
theorem look_put_other (h : Heap) (id : Id) (b : Option Blk) {i : Id} (hi : i ≠ id) (j : Nat) : look (Heap.put h id b) i j = look h i j := by
  unfold look Heap.put
  rw [if_neg (fun e => hi (Id.num_inj e))]
theorem put_same (h : Heap) (id : Id) (b : Option Blk) : Heap.put h id b id = b := by simp [Heap.put]

/-- the names that a run gives are free -/
def FreeTo (s s' : S) : Prop := ∀ id : Id, s.n.num ≤ id.num → id.num < s'.n.num → s.h id = none

/-- What is said of a run from s to s', and of the same from another memory that agrees. -/
structure Run (α : Type) (m : M α) (s : S) (a : α) (s' : S) (R W : List Rng) : Prop where
  log : s.tr = true → s'.r = R ++ s.r ∧ s'.w = W ++ s.w
  off : ∀ id j, ¬ cov W id j → look s'.h id j = look s.h id j
  also : ∀ t : S, t.tr = s.tr → t.n = s.n → (∀ id j, cov R id j ∨ cov W id j → look t.h id j = look s.h id j) →
    ∃ t', m t = some (a, t') ∧ t'.n = s'.n ∧ t'.tr = s.tr ∧ (s.tr = true → t'.r = R ++ t.r ∧ t'.w = W ++ t.w) ∧ (∀ id j, cov W id j → look t'.h id j = look s'.h id j) ∧ (∀ id j, ¬ cov W id j → look t'.h id j = look t.h id j)
def Loc {α : Type} (m : M α) : Prop := ∀ s a s', m s = some (a, s') → s'.tr = s.tr ∧ s.n.num ≤ s'.n.num ∧ (∀ id, s.h id = none → s'.h id = none ∨ (s.n.num ≤ id.num ∧ id.num < s'.n.num)) ∧ (FreeTo s s' → ∃ R W, Run α m s a s' R W)

theorem Loc.pure {α : Type} (x : α) : Loc (M.pure x) := by
  intro s a s' h
  simp only [M.pure, Option.some.injEq, Prod.mk.injEq] at h
  obtain ⟨rfl, rfl⟩ := h
  exact ⟨rfl, Nat.le_refl _, fun id h => .inl h, fun _ => ⟨[], [], ⟨fun _ => ⟨rfl, rfl⟩, fun _ _ _ => rfl, fun t h1 h2 _ => ⟨t, rfl, h2, h1, fun _ => ⟨rfl, rfl⟩, fun id j h => absurd h (cov_nil id j), fun _ _ _ => rfl⟩⟩⟩⟩
theorem Loc.no {α : Type} : Loc (M.no : M α) := by
  intro s a s' h
  simp [M.no] at h
theorem Loc.ofO {α γ : Type} {o : Option α} {f : α → M γ} (hf : ∀ x, Loc (f x)) : Loc (M.ofO o f) := by
  cases o with
  | none => exact Loc.no
  | some x => exact hf x
theorem Loc.ifB {α : Type} {b : Bool} {m : M α} (h : Loc m) : Loc (M.ifB b m) := by
  cases b
  · exact Loc.no
  · exact h
theorem Loc.bind {α γ : Type} {m : M α} {f : α → M γ} (hm : Loc m) (hf : ∀ x, Loc (f x)) : Loc (M.bind m f) := by
  intro s y s' h
  simp only [M.bind] at h
  cases hms : m s with
  | none => rw [hms] at h; cases h
  | some xu =>
    obtain ⟨x, u⟩ := xu
    rw [hms] at h
    simp only at h
    obtain ⟨a1, a2, a3, a4⟩ := hm s x u hms
    obtain ⟨b1, b2, b3, b4⟩ := hf x u y s' h
    refine ⟨b1.trans a1, Nat.le_trans a2 b2, fun id hid => ?_, fun hfr => ?_⟩
    · rcases a3 id hid with h1 | h1
      · rcases b3 id h1 with h2 | h2
        · exact .inl h2
        · exact .inr ⟨by omega, h2.2⟩
      · exact .inr ⟨h1.1, by omega⟩
    obtain ⟨R1, W1, r1⟩ := a4 (fun id c d => hfr id c (by omega))
    obtain ⟨R2, W2, r2⟩ := b4 (fun id c d => (a3 id (hfr id (by omega) d)).resolve_right (by omega))
    refine ⟨R2 ++ R1, W2 ++ W1, ⟨fun htr => ?_, fun id j hc => ?_, fun t t1 t2 t3 => ?_⟩⟩
    · obtain ⟨c1, c2⟩ := r1.log htr
      obtain ⟨d1, d2⟩ := r2.log (a1.trans htr)
      exact ⟨by rw [d1, c1, List.append_assoc], by rw [d2, c2, List.append_assoc]⟩
    · rw [cov_append] at hc
      rw [r2.off id j (fun h => hc (.inl h)), r1.off id j (fun h => hc (.inr h))]
    · have agree : ∀ id j, cov R1 id j ∨ cov R2 id j ∨ cov W1 id j ∨ cov W2 id j → look t.h id j = look s.h id j := fun id j h => t3 id j (by
        rw [cov_append, cov_append]
        rcases h with h | h | h | h
        · exact .inl (.inr h)
        · exact .inl (.inl h)
        · exact .inr (.inr h)
        · exact .inr (.inl h))
      obtain ⟨v, v1, v2, v3, v4, v5, v6⟩ := r1.also t t1 t2 (fun id j h => agree id j (by rcases h with h | h; exact .inl h; exact .inr (.inr (.inl h))))
      obtain ⟨w, w1, w2, w3, w4, w5, w6⟩ := r2.also v (v3.trans a1.symm) v2 (fun id j h => by
        by_cases hc : cov W1 id j
        · exact v5 id j hc
        · rw [v6 id j hc, r1.off id j hc]
          exact agree id j (by rcases h with h | h; exact .inr (.inl h); exact .inr (.inr (.inr h))))
      refine ⟨w, by simp only [M.bind, v1]; exact w1, w2, w3.trans a1, fun htr => ?_, fun id j hc => ?_, fun id j hc => ?_⟩
      · obtain ⟨c1, c2⟩ := v4 htr
        obtain ⟨d1, d2⟩ := w4 (a1.trans htr)
        exact ⟨by rw [d1, c1, List.append_assoc], by rw [d2, c2, List.append_assoc]⟩
      · rw [cov_append] at hc
        by_cases h2 : cov W2 id j
        · exact w5 id j h2
        · rw [w6 id j h2, r2.off id j h2]
          exact v5 id j (hc.resolve_left h2)
      · rw [cov_append] at hc
        rw [w6 id j (fun h => hc (.inl h)), v6 id j (fun h => hc (.inr h))]
theorem Loc.apart {α : Type} {m : M α} (hm : Loc m) : Loc (M.apart m) := by
  intro s y s' h
  simp only [M.apart] at h
  cases hms : m ⟨true, s.h, s.n, [], []⟩ with
  | none => rw [hms] at h; cases h
  | some xu =>
    obtain ⟨x, u⟩ := xu
    rw [hms] at h
    simp only at h
    obtain ⟨a1, a2, a3, a4⟩ := hm ⟨true, s.h, s.n, [], []⟩ x u hms
    cases htr : s.tr <;> rw [htr] at h <;> simp only at h <;> cases h
    · refine ⟨rfl, a2, a3, fun hfr => ?_⟩
      obtain ⟨R1, W1, r1⟩ := a4 hfr
      obtain ⟨l1, l2⟩ := r1.log rfl
      simp only [List.append_nil] at l1 l2
      refine ⟨R1, W1, ⟨fun h => (by rw [htr] at h; cases h), r1.off, fun t t1 t2 t3 => ?_⟩⟩
      obtain ⟨v, v1, v2, v3, v4, v5, v6⟩ := r1.also ⟨true, t.h, t.n, [], []⟩ rfl t2 t3
      obtain ⟨c1, c2⟩ := v4 rfl
      simp only [List.append_nil] at c1 c2
      refine ⟨⟨false, v.h, v.n, t.r, t.w⟩, ?_, v2, htr.symm, fun h => (by rw [htr] at h; cases h), v5, v6⟩
      simp only [M.apart, v1, t1, htr, c1, c2, l1, l2]
    · refine ⟨rfl, a2, a3, fun hfr => ?_⟩
      obtain ⟨R1, W1, r1⟩ := a4 hfr
      obtain ⟨l1, l2⟩ := r1.log rfl
      simp only [List.append_nil] at l1 l2
      refine ⟨R1, W1, ⟨fun _ => ⟨by rw [l1], by rw [l2]⟩, r1.off, fun t t1 t2 t3 => ?_⟩⟩
      obtain ⟨v, v1, v2, v3, v4, v5, v6⟩ := r1.also ⟨true, t.h, t.n, [], []⟩ rfl t2 t3
      obtain ⟨c1, c2⟩ := v4 rfl
      simp only [List.append_nil] at c1 c2
      refine ⟨⟨true, v.h, v.n, v.r ++ t.r, v.w ++ t.w⟩, ?_, v2, htr.symm, fun _ => ⟨by rw [c1], by rw [c2]⟩, v5, v6⟩
      simp only [M.apart, v1, t1, htr, c1, c2, l1, l2]
end Ev
end Go.Proofs.Ytijnjnncgkhabaa
