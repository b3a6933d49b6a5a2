/- DERIVED. Plain: the ranges that came, and what lies there. -/
import Derived.Test.YtebiebcpdjipjaaRngLaw5
import Derived.Test.YtebiebcpdjipjaaInbM
namespace Go.Proofs.Ytebiebcpdjipjaa

theorem norm_count : ∀ (xs : List Rg) (a b : Nat), Norm xs → (∀ r ∈ xs, a ≤ r.1 ∧ r.2 ≤ b) → 2 * xs.length ≤ (b - a) + 1
  | [], _, _, _, _ => by simp
  | r :: xs, a, b, hn, h => by
    obtain ⟨⟨h1, h2⟩, h3⟩ := hn.head
    obtain ⟨h4, h5⟩ := h r (List.mem_cons_self ..)
    have ih := norm_count xs (r.2 + 1) b hn.tail (fun x hx => by
      have := h3 x hx
      have := h x (List.mem_cons_of_mem _ hx)
      omega)
    simp only [List.length_cons]
    cases xs with
    | nil => simp; omega
    | cons y ys =>
      have := h3 y (List.mem_cons_self ..)
      have := h y (by simp)
      have := hn.tail.head.1.1
      simp only [List.length_cons] at *
      omega
theorem mem_in {xs : List Rg} {r : Rg} (hr : r ∈ xs) {k : Nat} (h1 : r.1 ≤ k) (h2 : k < r.2) : mem xs k = true :=
  List.any_eq_true.2 ⟨r, hr, by simp [hasP, h1, h2]⟩
theorem mem_end : ∀ {xs : List Rg}, Norm xs → ∀ {r : Rg}, r ∈ xs → mem xs r.2 = false
  | [], _, r, h => by simp at h
  | x :: xs, hn, r, h => by
    obtain ⟨⟨h1, h2⟩, h3⟩ := hn.head
    have e : mem (x :: xs) r.2 = (hasP r.2 x || mem xs r.2) := by simp [mem]
    rw [e]
    rcases List.mem_cons.1 h with rfl | h
    · rw [mem_lo hn.tail h3 (Nat.le_refl _)]
      simp [hasP]
    · rw [mem_end hn.tail h]
      have := h3 r h
      have := hn.tail.1 r h
      simp [hasP]
      omega
theorem mem_of {xs : List Rg} {k : Nat} (h : mem xs k = true) : ∃ r ∈ xs, r.1 ≤ k ∧ k < r.2 := by
  obtain ⟨r, hr, h2⟩ := List.any_eq_true.1 h
  simp [hasP] at h2
  exact ⟨r, hr, h2⟩
/-- Where all below lies in it, and nothing from a bound on, there are few ranges. -/
theorem few_of {xs : List Rg} (hn : Norm xs) {a b : Nat} (h1 : ∀ k, k < a → mem xs k = true) (h2 : ∀ k, b ≤ k → mem xs k = false) : 2 * xs.length ≤ (b - a) + 3 := by
  have hb : ∀ r ∈ xs, r.2 ≤ b := by
    intro r hr
    rcases Nat.lt_or_ge b r.2 with h | h
    · have h3 := hn.1 r hr
      have := mem_in hr (k := r.2 - 1) (by omega) (by omega)
      rw [h2 _ (by omega)] at this
      cases this
    · exact h
  cases xs with
  | nil => simp
  | cons r xs =>
    obtain ⟨⟨h3, h4⟩, h5⟩ := hn.head
    have hr : a ≤ r.2 := by
      rcases Nat.lt_or_ge r.2 a with h | h
      · have := h1 _ h
        rw [mem_end hn (List.mem_cons_self ..)] at this
        cases this
      · exact h
    have := norm_count xs (r.2 + 1) b hn.tail (fun x hx => by
      have := h5 x hx
      have := hb x (List.mem_cons_of_mem _ hx)
      omega)
    have := hb r (List.mem_cons_self ..)
    simp only [List.length_cons]
    omega

/-- The ranges say what came. -/
def CameIs (s : IB) (xs : List Rg) : Prop := Norm xs ∧ ∀ k, mem xs k = s.came k
theorem CameIs.zero : CameIs IB.zero [] := ⟨⟨by simp, by simp⟩, fun k => by simp [mem, IB.came, IB.zero, gt]⟩
theorem CameIs.few {s : IB} {xs : List Rg} (h : CameIs s xs) (hs : s.Ok) : xs.length ≤ 1026 := by
  have := few_of h.1 (a := s.rd) (b := s.rd + 2048) (fun k hk => by rw [h.2 k]; simp [IB.came, hk]) (fun k hk => by
    rw [h.2 k]
    have := hs.len
    simp only [IB.came, Bool.or_eq_false_iff, decide_eq_false_iff_not]
    exact ⟨by omega, by rw [gt_ge (by omega)]; rfl⟩)
  omega
theorem CameIs.put {s : IB} {xs : List Rg} (h : CameIs s xs) {off : Nat} {d : List Nat} {f : Bool} (hd : off < off + d.length) (he : off + d.length ≤ 4611686018427387904) : CameIs (s.put off d f) (addN xs (off, off + d.length)) := by
  refine ⟨addN_norm xs (off, off + d.length) hd he h.1, fun k => ?_⟩
  have h1 : mem (addN xs (off, off + d.length)) k = (hasP k (off, off + d.length) || mem xs k) := any_addN k xs _ hd h.1
  rw [h1, h.2 k]
  simp only [IB.came, IB.put]
  rw [gt_putN]
  by_cases hk : k < s.rd
  · simp [hk]
  · have e : s.rd + (k - s.rd) = k := by omega
    rw [e]
    by_cases hg : (gt s.L (k - s.rd)).isSome
    · simp [hg]
    · rw [if_neg hg]
      simp only [Bool.not_eq_true] at hg
      rw [hg]
      by_cases h2 : off ≤ k
      · rw [if_pos h2]
        by_cases h3 : k < off + d.length
        · rw [List.getElem?_eq_getElem (by omega)]
          simp [hasP, h2, h3]
        · rw [List.getElem?_eq_none (by omega)]
          simp [hasP, hk]
          omega
      · rw [if_neg h2]
        simp [hasP, hk]
        omega
theorem CameIs.put_nil {s : IB} {xs : List Rg} (h : CameIs s xs) {off : Nat} {f : Bool} : CameIs (s.put off [] f) xs := ⟨h.1, fun k => by rw [h.2 k]; simp [IB.came, IB.put, putN_nil]⟩
theorem came_take {s : IB} {n : Nat} (_hn : n ≤ rdy s.L) (k : Nat) : (s.take n).came k = (decide (k < s.rd + n) || s.came k) := by
  simp only [IB.came, IB.take]
  by_cases h1 : k < s.rd + n
  · simp [h1]
  · have e : n + (k - (s.rd + n)) = k - s.rd := by omega
    have h2 : ¬ k < s.rd := by omega
    rw [gt_drop, e]
    simp [h1, h2]
theorem CameIs.take {s : IB} {xs : List Rg} (h : CameIs s xs) {n : Nat} (hn : n ≤ rdy s.L) (hp : 0 < s.rd + n) (hb : s.rd + n ≤ 4611686018427387904) : CameIs (s.take n) (addN xs (0, s.rd + n)) := by
  refine ⟨addN_norm xs (0, s.rd + n) hp hb h.1, fun k => ?_⟩
  have h1 : mem (addN xs (0, s.rd + n)) k = (hasP k (0, s.rd + n) || mem xs k) := any_addN k xs _ hp h.1
  rw [h1, h.2 k, came_take hn]
  simp [hasP]
theorem CameIs.take_zero {s : IB} {xs : List Rg} (h : CameIs s xs) : CameIs (s.take 0) xs := ⟨h.1, fun k => by rw [h.2 k, came_take (by omega)]; simp [IB.came]⟩
/-- Where the bytes that are there end. -/
def readyOf (xs : List Rg) (rd : Nat) : Nat := match xs.find? (hasP rd) with | some r => r.2 | none => rd
theorem CameIs.ready {s : IB} {xs : List Rg} (h : CameIs s xs) : readyOf xs s.rd = s.rd + rdy s.L := by
  unfold readyOf
  cases hf : xs.find? (hasP s.rd) with
  | none =>
    have : mem xs s.rd = false := by
      unfold mem
      rw [List.any_eq_false]
      intro r hr
      have := List.find?_eq_none.1 hf r hr
      exact this
    rw [h.2] at this
    simp [IB.came] at this
    have e := rdy_is (L := s.L) (n := 0) (by intro j hj; omega) this
    simp only
    omega
  | some r =>
    have hr := List.mem_of_find?_eq_some hf
    have hp : hasP s.rd r = true := List.find?_some hf
    simp [hasP] at hp
    have e := rdy_is (L := s.L) (n := r.2 - s.rd) (by
      intro j hj
      have := mem_in hr (k := s.rd + j) (by omega) (by omega)
      rw [h.2] at this
      simp [IB.came] at this
      rcases this with h' | h'
      · omega
      · exact h') (by
      have := mem_end h.1 hr
      rw [h.2] at this
      simp [IB.came] at this
      simpa using this.2)
    simp only
    omega
end Go.Proofs.Ytebiebcpdjipjaa
