/- DERIVED. What an evaluation reads and writes is all that it hangs on and all that it turns: the words of memory, the operations. -/
import Derived.Test.YtijnjnncgkhabaaEvL
namespace Go.Proofs.Ytijnjnncgkhabaa
namespace Ev
open Classical

/-- a step that reads, and one that writes, said at once -/
theorem Loc.of_read {α : Type} {m : M α} (hm : ∀ s a s', m s = some (a, s') → s'.tr = s.tr ∧ s'.n = s.n ∧ s'.h = s.h ∧ ∃ R, (s.tr = true → s'.r = R ++ s.r ∧ s'.w = s.w) ∧
    ∀ t : S, t.tr = s.tr → t.n = s.n → (∀ id j, cov R id j → look t.h id j = look s.h id j) → ∃ t', m t = some (a, t') ∧ t'.n = t.n ∧ t'.tr = t.tr ∧ t'.h = t.h ∧ (s.tr = true → t'.r = R ++ t.r ∧ t'.w = t.w)) : Loc m := by
  intro s a s' h
  obtain ⟨h1, h2, h3, R, h4, h5⟩ := hm s a s' h
  refine ⟨h1, by rw [h2]; exact Nat.le_refl _, fun id hid => .inl (by rw [h3]; exact hid), fun _ => ⟨R, [], ⟨fun htr => ⟨(h4 htr).1, by simpa using (h4 htr).2⟩, fun id j _ => by rw [h3], fun t t1 t2 t3 => ?_⟩⟩⟩
  obtain ⟨t', g1, g2, g3, g4, g5⟩ := h5 t t1 t2 (fun id j h => t3 id j (.inl h))
  exact ⟨t', g1, by rw [g2, t2, h2], g3.trans t1, fun htr => ⟨(g5 htr).1, by simpa using (g5 htr).2⟩, fun id j h => absurd h (cov_nil id j), fun id j _ => by rw [g4]⟩

theorem logR_all (s : S) (id : Id) (lo m : Nat) : (M.logR s id lo m).tr = s.tr ∧ (M.logR s id lo m).h = s.h ∧ (M.logR s id lo m).n = s.n ∧ (M.logR s id lo m).w = s.w ∧ (s.tr = true → (M.logR s id lo m).r = ⟨id, lo, m⟩ :: s.r) := by
  unfold M.logR
  cases h : s.tr <;> simp [h]
theorem logW_all (s : S) (id : Id) (lo m : Nat) : (M.logW s id lo m).tr = s.tr ∧ (M.logW s id lo m).h = s.h ∧ (M.logW s id lo m).n = s.n ∧ (M.logW s id lo m).r = s.r ∧ (s.tr = true → (M.logW s id lo m).w = ⟨id, lo, m⟩ :: s.w) := by
  unfold M.logW
  cases h : s.tr <;> simp [h]

/-- The same cells at some places: the same part of the block. -/
theorem part_same {h h' : Heap} {id : Id} {k : Blk} (hk : h id = some k) {lo m : Nat} (hm : 1 ≤ m) (hle : lo + m ≤ k.c.length) (hag : ∀ j, lo ≤ j → j < lo + m → look h' id j = look h id j) :
    ∃ k', h' id = some k' ∧ lo + m ≤ k'.c.length ∧ (k'.c.drop lo).take m = (k.c.drop lo).take m := by
  have h1 := hag lo (Nat.le_refl _) (by omega)
  rw [look_cell hk (by omega)] at h1
  obtain ⟨k', hk', _⟩ := look_inl h1
  have hlast := hag (lo + m - 1) (by omega) (by omega)
  rw [look_cell hk (by omega)] at hlast
  obtain ⟨k2, hk2, hj2, _⟩ := look_inl hlast
  obtain rfl : k2 = k' := by rw [hk'] at hk2; cases hk2; rfl
  refine ⟨k2, hk', by omega, ?_⟩
  apply List.ext_getElem?
  intro j
  by_cases hj : j < m
  · rw [List.getElem?_take, List.getElem?_take, if_pos hj, if_pos hj, List.getElem?_drop, List.getElem?_drop]
    have h3 := hag (lo + j) (by omega) (by omega)
    rw [look_cell hk (by omega), look_cell hk' (by omega)] at h3
    simp only [Option.some.injEq, Sum.inl.injEq] at h3
    rw [List.getElem?_eq_getElem (by omega), List.getElem?_eq_getElem (by omega), h3]
  · rw [List.getElem?_take, List.getElem?_take, if_neg hj, if_neg hj]
/-- The whole block the same. -/
theorem blk_same {h h' : Heap} {id : Id} {k : Blk} (hk : h id = some k) (hag : ∀ j, j < k.c.length + 1 → look h' id j = look h id j) : h' id = some k := by
  have h1 := hag k.c.length (by omega)
  rw [look_end hk] at h1
  obtain ⟨k', hk', hl, hz, _⟩ := look_inr h1
  rw [hk']
  congr 1
  obtain ⟨z, c⟩ := k
  obtain ⟨z', c'⟩ := k'
  simp only at hl hz hag
  subst hz
  congr 1
  apply List.ext_getElem?
  intro j
  by_cases hj : j < c.length
  · have h3 := hag j (by omega)
    rw [look_cell hk hj, look_cell hk' (show j < c'.length by omega)] at h3
    simp only [Option.some.injEq, Sum.inl.injEq] at h3
    rw [List.getElem?_eq_getElem hj, List.getElem?_eq_getElem (by omega), h3]
  · rw [List.getElem?_eq_none (by omega), List.getElem?_eq_none (by omega)]

theorem Loc.rd (id : Id) (lo m : Nat) : Loc (M.rd id lo m) := by
  unfold M.rd
  cases h0 : Nat.beq m 0
  · have hm : 1 ≤ m := Nat.one_le_iff_ne_zero.2 (fun e => by subst e; simp at h0)
    refine Loc.of_read fun s a s' h => ?_
    simp only at h
    cases hk : s.h id with
    | none => rw [hk] at h; cases h
    | some k =>
      rw [hk] at h
      simp only at h
      cases hb : Nat.ble (lo + m) k.c.length <;> rw [hb] at h <;> simp only at h <;> cases h
      have hle := Nat.le_of_ble_eq_true hb
      obtain ⟨l1, l2, l3, l4, l5⟩ := logR_all s id lo m
      refine ⟨l1, l3, l2, [⟨id, lo, m⟩], fun htr => ⟨l5 htr, l4⟩, fun t t1 t2 t3 => ?_⟩
      obtain ⟨k', hk', hle', he⟩ := part_same hk hm hle (fun j j1 j2 => t3 id j ((cov_one id j).2 ⟨rfl, j1, j2⟩))
      obtain ⟨q1, q2, q3, q4, q5⟩ := logR_all t id lo m
      exact ⟨M.logR t id lo m, by simp only [hk', Nat.ble_eq_true_of_le hle', he], q3, q1, q2, fun htr => ⟨q5 (t1.trans htr), q4⟩⟩
  · exact Loc.pure _
theorem Loc.shared (id : Id) : Loc (M.shared id) := by
  refine Loc.of_read fun s a s' h => ?_
  unfold M.shared at h
  cases hk : s.h id with
  | none => rw [hk] at h; cases h
  | some k =>
    rw [hk] at h
    simp only at h
    cases h
    obtain ⟨l1, l2, l3, l4, l5⟩ := logR_all s id k.c.length 1
    refine ⟨l1, l3, l2, [⟨id, k.c.length, 1⟩], fun htr => ⟨l5 htr, l4⟩, fun t t1 t2 t3 => ?_⟩
    have := t3 id k.c.length ((cov_one id _).2 ⟨rfl, Nat.le_refl _, Nat.lt_succ_self _⟩)
    rw [look_end hk] at this
    obtain ⟨k', hk', hl, hz, _⟩ := look_inr this
    obtain ⟨q1, q2, q3, q4, q5⟩ := logR_all t id k.c.length 1
    exact ⟨M.logR t id k.c.length 1, by unfold M.shared; simp only [hk', hl, hz], q3, q1, q2, fun htr => ⟨q5 (t1.trans htr), q4⟩⟩
theorem Loc.ends (id : Id) : Loc (M.ends id) := by
  refine Loc.of_read fun s a s' h => ?_
  unfold M.ends at h
  cases hk : s.h id with
  | none => rw [hk] at h; cases h
  | some k =>
    rw [hk] at h
    simp only at h
    cases h
    obtain ⟨l1, l2, l3, l4, l5⟩ := logR_all s id k.c.length 1
    refine ⟨l1, l3, l2, [⟨id, k.c.length, 1⟩], fun htr => ⟨l5 htr, l4⟩, fun t t1 t2 t3 => ?_⟩
    have := t3 id k.c.length ((cov_one id _).2 ⟨rfl, Nat.le_refl _, Nat.lt_succ_self _⟩)
    rw [look_end hk] at this
    obtain ⟨k', hk', hl, hz, _⟩ := look_inr this
    obtain ⟨q1, q2, q3, q4, q5⟩ := logR_all t id k.c.length 1
    exact ⟨M.logR t id k.c.length 1, by unfold M.ends; simp only [hk', hl, hz], q3, q1, q2, fun htr => ⟨q5 (t1.trans htr), q4⟩⟩
/-- What lies where a part of a block was written. -/
theorem look_write {h : Heap} {id : Id} {k : Blk} (hk : h id = some k) {lo : Nat} {l : List AV} (hle : lo + l.length ≤ k.c.length) (i : Id) (j : Nat) :
    look (Heap.put h id (some ⟨k.z, k.c.take lo ++ (l ++ k.c.drop (lo + l.length))⟩)) i j = if i = id ∧ lo ≤ j ∧ j < lo + l.length then l[j - lo]?.map Sum.inl else look h i j := by
  by_cases hi : i = id
  · subst hi
    have hlen : (k.c.take lo ++ (l ++ k.c.drop (lo + l.length))).length = k.c.length := by simp; omega
    unfold look
    rw [put_same, hk]
    simp only [hlen, true_and]
    by_cases hj : j < k.c.length
    · rw [if_pos hj, if_pos hj]
      by_cases h1 : lo ≤ j ∧ j < lo + l.length
      · rw [if_pos h1, List.getElem?_append_right (by rw [List.length_take]; omega), List.length_take, Nat.min_eq_left (by omega), List.getElem?_append_left (by omega)]
      · rw [if_neg h1]
        by_cases h2 : j < lo
        · rw [List.getElem?_append_left (by rw [List.length_take]; omega), List.getElem?_take, if_pos h2]
        · rw [List.getElem?_append_right (by rw [List.length_take]; omega), List.length_take, Nat.min_eq_left (by omega), List.getElem?_append_right (by omega), List.getElem?_drop, show lo + l.length + (j - lo - l.length) = j by omega]
    · have h3 : ¬ (lo ≤ j ∧ j < lo + l.length) := by omega
      rw [if_neg h3]
      simp only [if_neg hj]
  · rw [look_put_other _ _ _ hi, if_neg (fun h => hi h.1)]
theorem Loc.wr (id : Id) (lo : Nat) (l : List AV) : Loc (M.wr id lo l) := by
  unfold M.wr
  cases h0 : l.isEmpty
  · have hm : 1 ≤ l.length := by cases l; cases h0; simp
    intro s a s' h
    simp only at h
    cases hk : s.h id with
    | none => rw [hk] at h; cases h
    | some k =>
      rw [hk] at h
      simp only at h
      cases hb : Nat.ble (lo + l.length) k.c.length <;> rw [hb] at h <;> simp only at h <;> cases h
      have hle := Nat.le_of_ble_eq_true hb
      obtain ⟨l1, l2, l3, l4, l5⟩ := logW_all ⟨s.tr, Heap.put s.h id (some ⟨k.z, k.c.take lo ++ (l ++ k.c.drop (lo + l.length))⟩), s.n, s.r, s.w⟩ id lo l.length
      refine ⟨l1, by rw [l3]; exact Nat.le_refl _, ?_, fun _ => ⟨[], [⟨id, lo, l.length⟩], ⟨fun htr => ⟨l4, l5 htr⟩, fun i j hc => ?_, fun t t1 t2 t3 => ?_⟩⟩⟩
      · intro i hi
        left
        rw [l2]
        have hne : i ≠ id := fun e => by rw [e, hk] at hi; cases hi
        simp only [Heap.put, if_neg (fun e => hne (Id.num_inj e))]
        exact hi
      · rw [l2, look_write hk hle, if_neg]
        rintro ⟨rfl, h1, h2⟩
        exact hc ((cov_one _ _).2 ⟨rfl, h1, h2⟩)
      · obtain ⟨k', hk', hle', _⟩ := part_same hk hm hle (fun j j1 j2 => t3 id j (.inr ((cov_one id j).2 ⟨rfl, j1, j2⟩)))
        obtain ⟨q1, q2, q3, q4, q5⟩ := logW_all ⟨t.tr, Heap.put t.h id (some ⟨k'.z, k'.c.take lo ++ (l ++ k'.c.drop (lo + l.length))⟩), t.n, t.r, t.w⟩ id lo l.length
        refine ⟨_, by simp only [hk', Nat.ble_eq_true_of_le hle'], ?_, q1.trans t1, fun htr => ⟨q4, q5 (t1.trans htr)⟩, fun i j hc => ?_, fun i j hc => ?_⟩
        · rw [q3, l3]; exact t2
        · rw [cov_one] at hc
          obtain ⟨rfl, h1, h2⟩ := hc
          rw [q2, l2, look_write hk' hle', look_write hk hle, if_pos ⟨rfl, h1, h2⟩, if_pos ⟨rfl, h1, h2⟩]
        · rw [q2, look_write hk' hle', if_neg]
          rintro ⟨rfl, h1, h2⟩
          exact hc ((cov_one _ _).2 ⟨rfl, h1, h2⟩)
  · exact Loc.pure _
theorem look_new (h : Heap) (id : Id) (b : Blk) (i : Id) (j : Nat) (hfree : h id = none) :
    look (Heap.put h id (some b)) i j = if i = id ∧ j < b.c.length + 1 then (if j < b.c.length then b.c[j]?.map Sum.inl else some (Sum.inr (b.c.length, b.z))) else look h i j := by
  by_cases hi : i = id
  · subst hi
    unfold look
    rw [put_same, hfree]
    simp only [true_and]
    by_cases h1 : j < b.c.length
    · rw [if_pos h1, if_pos (by omega), if_pos h1]
    · rw [if_neg h1]
      by_cases h2 : j = b.c.length
      · rw [if_pos h2, if_pos (by omega), if_neg h1]
      · rw [if_neg h2, if_neg (by omega)]
  · rw [look_put_other _ _ _ hi, if_neg (fun h => hi h.1)]
theorem Loc.new (z : Zf) (l : List AV) : Loc (M.new z l) := by
  intro s a s' h
  unfold M.new at h
  cases hn : s.n.inc with
  | none => rw [hn] at h; cases h
  | some n =>
    rw [hn] at h
    simp only at h
    cases h
    have hnum := Id.inc_num hn
    obtain ⟨l1, l2, l3, l4, l5⟩ := logW_all ⟨s.tr, Heap.put s.h s.n (some ⟨z, l⟩), n, s.r, s.w⟩ s.n 0 (l.length + 1)
    refine ⟨l1, by rw [l3]; simp only; omega, fun i hi => ?_, fun hf => ?_⟩
    · rw [l3, l2]
      simp only
      by_cases e : i.num = s.n.num
      · exact .inr ⟨by omega, by omega⟩
      · left
        simp only [Heap.put, if_neg e]
        exact hi
    have hfree := hf s.n (Nat.le_refl _) (by rw [l3]; simp only; omega)
    refine ⟨[], [⟨s.n, 0, l.length + 1⟩], ⟨fun htr => ⟨l4, l5 htr⟩, fun i j hc => ?_, fun t t1 t2 t3 => ?_⟩⟩
    · rw [l2, look_new _ _ _ _ _ hfree, if_neg]
      rintro ⟨rfl, h1⟩
      exact hc ((cov_one _ _).2 ⟨rfl, by omega, by simpa using h1⟩)
    · have hfree' : t.h s.n = none := by
        have := t3 s.n 0 (.inr ((cov_one _ _).2 ⟨rfl, by omega, by omega⟩))
        rw [look_none.2 hfree] at this
        exact look_none.1 this
      obtain ⟨q1, q2, q3, q4, q5⟩ := logW_all ⟨t.tr, Heap.put t.h s.n (some ⟨z, l⟩), n, t.r, t.w⟩ s.n 0 (l.length + 1)
      refine ⟨_, by unfold M.new; simp only [t2, hn], by rw [q3, l3], q1.trans t1, fun htr => ⟨q4, q5 (t1.trans htr)⟩, fun i j hc => ?_, fun i j hc => ?_⟩
      · rw [cov_one] at hc
        obtain ⟨rfl, h1, h2⟩ := hc
        have hcnd : s.n = s.n ∧ j < (⟨z, l⟩ : Blk).c.length + 1 := ⟨rfl, by simpa using h2⟩
        rw [q2, l2]
        simp only
        rw [look_new _ _ _ _ _ hfree, look_new _ _ _ _ _ hfree', if_pos hcnd, if_pos hcnd]
      · rw [q2, look_new _ _ _ _ _ hfree', if_neg]
        rintro ⟨rfl, h1⟩
        exact hc ((cov_one _ _).2 ⟨rfl, by omega, by simpa using h1⟩)
theorem look_gone {h : Heap} {id : Id} {k : Blk} (hk : h id = some k) (i : Id) (j : Nat) : look (Heap.put h id none) i j = if i = id ∧ j < k.c.length + 1 then none else look h i j := by
  by_cases hi : i = id
  · subst hi
    unfold look
    rw [put_same, hk]
    simp only [true_and]
    by_cases h1 : j < k.c.length
    · rw [if_pos (by omega)]
    · by_cases h2 : j = k.c.length
      · rw [if_pos (by omega)]
      · rw [if_neg (by omega), if_neg h1, if_neg h2]
  · rw [look_put_other _ _ _ hi, if_neg (fun h => hi h.1)]
theorem Loc.over (id : Id) (lo m : Nat) (l : List AV) : Loc (M.over id lo m l) := by
  intro s a s' h
  unfold M.over at h
  cases hk : s.h id with
  | none => rw [hk] at h; cases h
  | some k =>
    rw [hk] at h
    simp only at h
    cases hb : Nat.ble (lo + m) k.c.length <;> rw [hb] at h <;> simp only at h
    · cases h
    cases hn : s.n.inc with
    | none => rw [hn] at h; cases h
    | some n =>
      rw [hn] at h
      simp only at h
      cases h
      have hle := Nat.le_of_ble_eq_true hb
      have hnum := Id.inc_num hn
      have build : ∀ (tr : Bool) (hh : Heap) (r w : List Rng), ∃ u : S, u = M.logW (M.logW (M.logR ⟨tr, hh, n, r, w⟩ id 0 (k.c.length + 1)) id 0 (k.c.length + 1)) s.n 0 (m + l.length + 1) ∧ u.tr = tr ∧ u.h = hh ∧ u.n = n ∧ (tr = true → u.r = ⟨id, 0, k.c.length + 1⟩ :: r ∧ u.w = ⟨s.n, 0, m + l.length + 1⟩ :: ⟨id, 0, k.c.length + 1⟩ :: w) := by
        intro tr hh r w
        refine ⟨_, rfl, ?_⟩
        cases tr <;> simp [M.logW, M.logR]
      obtain ⟨u, hu, u1, u2, u3, u4⟩ := build s.tr (Heap.put (Heap.put s.h id none) s.n (some ⟨k.z.over lo, (k.c.drop lo).take m ++ l⟩)) s.r s.w
      rw [← hu]
      refine ⟨u1, by rw [u3]; omega, fun i hi => ?_, fun hf => ?_⟩
      · rw [u2, u3]
        by_cases e : i.num = s.n.num
        · exact .inr ⟨by omega, by omega⟩
        · left
          simp only [Heap.put, if_neg e]
          by_cases hi2 : i.num = id.num
          · rw [if_pos hi2]
          · rw [if_neg hi2]; exact hi
      have hfree := hf s.n (Nat.le_refl _) (by rw [u3]; omega)
      have hne : s.n ≠ id := fun e => by rw [e, hk] at hfree; cases hfree
      have hlb : ((k.c.drop lo).take m ++ l).length = m + l.length := by simp; omega
      have fr : ∀ t : S, t.h s.n = none → (Heap.put t.h id none) s.n = none := fun t ht => by simp only [Heap.put, if_neg (fun e => hne (Id.num_inj e))]; exact ht
      have both : ∀ t : S, t.h id = some k → t.h s.n = none → ∀ i j, look (Heap.put (Heap.put t.h id none) s.n (some ⟨k.z.over lo, (k.c.drop lo).take m ++ l⟩)) i j =
          if i = s.n ∧ j < m + l.length + 1 then (if j < m + l.length then ((k.c.drop lo).take m ++ l)[j]?.map Sum.inl else some (Sum.inr (m + l.length, k.z.over lo))) else if i = id ∧ j < k.c.length + 1 then none else look t.h i j := by
        intro t hk' hfree' i j
        rw [look_new _ _ _ _ _ (fr t hfree'), look_gone hk']
        simp only [hlb]
      refine ⟨[⟨id, 0, k.c.length + 1⟩], [⟨s.n, 0, m + l.length + 1⟩, ⟨id, 0, k.c.length + 1⟩], ⟨fun htr => u4 htr, fun i j hc => ?_, fun t t1 t2 t3 => ?_⟩⟩
      · rw [u2, both s hk hfree, if_neg, if_neg]
        · rintro ⟨rfl, h1⟩
          exact hc ⟨⟨i, 0, k.c.length + 1⟩, by simp, rfl, by simp, by simpa using h1⟩
        · rintro ⟨rfl, h1⟩
          exact hc ⟨⟨s.n, 0, m + l.length + 1⟩, by simp, rfl, by simp, by simpa using h1⟩
      · have hk' : t.h id = some k := blk_same hk (fun j hj => t3 id j (.inl ((cov_one _ _).2 ⟨rfl, by omega, by simpa using hj⟩)))
        have hfree' : t.h s.n = none := by
          have := t3 s.n 0 (.inr ⟨⟨s.n, 0, m + l.length + 1⟩, by simp, rfl, by simp, by simp⟩)
          rw [look_none.2 hfree] at this
          exact look_none.1 this
        obtain ⟨v, hv, v1, v2, v3, v4⟩ := build t.tr (Heap.put (Heap.put t.h id none) s.n (some ⟨k.z.over lo, (k.c.drop lo).take m ++ l⟩)) t.r t.w
        refine ⟨v, by unfold M.over; simp only [hk', hb, t2, hn]; rw [hv], by rw [v3, u3], v1.trans t1, fun htr => v4 (t1.trans htr), fun i j hc => ?_, fun i j hc => ?_⟩
        · rw [v2, u2, both t hk' hfree', both s hk hfree]
          by_cases h1 : i = s.n ∧ j < m + l.length + 1
          · rw [if_pos h1, if_pos h1]
          · rw [if_neg h1, if_neg h1]
            by_cases h2 : i = id ∧ j < k.c.length + 1
            · rw [if_pos h2, if_pos h2]
            · exfalso
              obtain ⟨r, hr, e1, e2, e3⟩ := hc
              simp at hr
              rcases hr with rfl | rfl
              · exact h1 ⟨e1.symm, by simpa using e3⟩
              · exact h2 ⟨e1.symm, by simpa using e3⟩
        · rw [v2, both t hk' hfree', if_neg, if_neg]
          · rintro ⟨rfl, h1⟩
            exact hc ⟨⟨i, 0, k.c.length + 1⟩, by simp, rfl, by simp, by simpa using h1⟩
          · rintro ⟨rfl, h1⟩
            exact hc ⟨⟨s.n, 0, m + l.length + 1⟩, by simp, rfl, by simp, by simpa using h1⟩
end Ev
end Go.Proofs.Ytijnjnncgkhabaa
