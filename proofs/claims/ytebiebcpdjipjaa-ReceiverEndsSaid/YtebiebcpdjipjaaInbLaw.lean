/- DERIVED. Plain: pieces of one row of bytes; two rows of which the first one stands. -/
import Derived.Test.YtebiebcpdjipjaaInbM
namespace Go.Proofs.Ytebiebcpdjipjaa

theorem out_eq {s : IB} {n : Nat} {l : List Nat} (hn : n ≤ rdy s.L) (hl : l.length = n) (h : ∀ j v, j < n → gt s.L j = some v → l[j]? = some v) : s.out n = l := by
  unfold IB.out
  apply List.ext_getElem?
  intro j
  have hle := rdy_le s.L
  by_cases hj : j < n
  · rw [List.getElem?_take_of_lt hj]
    obtain ⟨v, hv⟩ := rdy_lt (Nat.lt_of_lt_of_le hj hn)
    rw [bytesOf_get hv, h j v hj hv]
  · rw [List.getElem?_eq_none (by simp [bytesOf]; omega), List.getElem?_eq_none (by omega)]
theorem out_len {s : IB} {n : Nat} (hn : n ≤ rdy s.L) : (s.out n).length = n := by
  have := rdy_le s.L
  simp [IB.out, bytesOf]
  omega

/-- All that came are pieces of one row. -/
structure Piece (W : List Nat) (s : IB) : Prop where
  rd : s.rd ≤ W.length
  hi : s.hi ≤ W.length
  fin : s.kn = true → s.fin = W.length
  get : ∀ j v, gt s.L j = some v → W[s.rd + j]? = some v
theorem Piece.zero (W : List Nat) : Piece W IB.zero := ⟨Nat.zero_le _, Nat.zero_le _, by simp [IB.zero], by intro j v h; simp [IB.zero, gt] at h⟩
theorem Piece.add {W : List Nat} {s : IB} (h : Piece W s) (hW : W.length ≤ 200) {off n : Nat} {f : Bool} (hn : off + n ≤ W.length) (hf : f = true → off + n = W.length) :
    s.err off n f = 0 ∧ Piece W (s.put off ((W.drop off).take n) f) ∧ ((W.drop off).take n).length = n := by
  have hl : ((W.drop off).take n).length = n := by rw [List.length_take, List.length_drop]; omega
  have h1 := h.hi
  refine ⟨?_, ⟨h.rd, ?_, ?_, ?_⟩, hl⟩
  · unfold IB.err
    rw [if_neg (by omega)]
    have : s.finErr (off + n) f = false := by
      unfold IB.finErr
      cases hk : s.kn
      · cases f
        · rfl
        · have := hf rfl
          simp
          omega
      · have h2 := h.fin hk
        cases f
        · simp
          omega
        · have := hf rfl
          simp
          omega
    rw [this]
    simp
    omega
  · simp only [IB.put]
    rw [hl]
    omega
  · intro hk
    simp only [IB.put] at *
    rw [hl] at *
    cases f
    · simp at hk ⊢
      exact h.fin hk
    · simpa using hf rfl
  · intro j v hv
    simp only [IB.put] at hv ⊢
    rw [gt_putN] at hv
    split at hv
    · exact h.get j v hv
    · split at hv
      · rename_i _ ho
        rw [List.getElem?_take] at hv
        split at hv
        · rw [List.getElem?_drop] at hv
          rw [← hv]
          congr 1
          omega
        · cases hv
      · cases hv
theorem Piece.take {W : List Nat} {s : IB} (h : Piece W s) {n : Nat} (hn : n ≤ rdy s.L) : Piece W (s.take n) ∧ s.out n = (W.drop s.rd).take n ∧ s.rd + n ≤ W.length := by
  have hr : s.rd + n ≤ W.length := by
    rcases Nat.eq_zero_or_pos n with h0 | h0
    · have := h.rd
      omega
    · obtain ⟨v, hv⟩ := rdy_lt (L := s.L) (j := n - 1) (by omega)
      have := h.get _ _ hv
      rw [List.getElem?_eq_some_iff] at this
      obtain ⟨h1, _⟩ := this
      omega
  refine ⟨⟨hr, h.hi, h.fin, ?_⟩, ?_, hr⟩
  · intro j v hv
    simp only [IB.take] at hv ⊢
    rw [gt_drop] at hv
    rw [← h.get _ _ hv]
    congr 1
    omega
  · apply out_eq hn
    · rw [List.length_take, List.length_drop]
      omega
    · intro j v hj hv
      rw [List.getElem?_take_of_lt hj, List.getElem?_drop]
      exact h.get j v hv
theorem Piece.all {W : List Nat} {s : IB} (h : Piece W s) (_hok : s.Ok) {f : Bool} : rdy (s.put 0 W f).L = W.length - s.rd := by
  have hr := h.rd
  apply rdy_is
  · intro j hj
    simp only [IB.put]
    rw [gt_putN]
    split
    · assumption
    · rw [if_pos (by omega), List.getElem?_eq_getElem (by omega)]
      rfl
  · simp only [IB.put]
    rw [gt_putN]
    have hn : gt s.L (W.length - s.rd) = none := by
      cases hg : gt s.L (W.length - s.rd) with
      | none => rfl
      | some v =>
        have := h.get _ _ hg
        rw [List.getElem?_eq_none (by omega)] at this
        cases this
    rw [hn]
    simp
    omega

/-- Two rows, the second one from k on. -/
def two (a b : List Nat) (k : Nat) : IB := (IB.zero.put 0 a false).put k b false
theorem two_get (a b : List Nat) {k : Nat} (j : Nat) : gt (two a b k).L j = if j < a.length then a[j]? else if k ≤ j then b[j - k]? else none := by
  simp only [two, IB.put, IB.zero]
  rw [gt_putN, gt_putN]
  simp only [gt_nil, Nat.zero_add, Nat.sub_zero, Nat.zero_le, if_true, Option.isSome_none, Bool.false_eq_true, if_false]
  by_cases h : j < a.length
  · rw [if_pos h, List.getElem?_eq_getElem h]
    simp
  · rw [if_neg h, List.getElem?_eq_none (by omega)]
    simp
theorem two_rdy (a b : List Nat) {k : Nat} (hk : k ≤ a.length) : rdy (two a b k).L = max a.length (k + b.length) := by
  apply rdy_is
  · intro j hj
    rw [two_get]
    split
    · rename_i h
      rw [List.getElem?_eq_getElem h]
      rfl
    · rw [if_pos (by omega), List.getElem?_eq_getElem (by omega)]
      rfl
  · rw [two_get, if_neg (by omega)]
    split
    · rw [List.getElem?_eq_none (by omega)]
    · rfl
theorem two_out (a b : List Nat) {k : Nat} (hk : k ≤ a.length) : (two a b k).out (max a.length (k + b.length)) = a ++ b.drop (a.length - k) := by
  apply out_eq (by rw [two_rdy a b hk]; omega)
  · simp
    omega
  · intro j v hj hv
    rw [two_get] at hv
    rw [List.getElem?_append]
    by_cases h : j < a.length
    · rw [if_pos h] at hv ⊢
      exact hv
    · rw [if_neg h] at hv ⊢
      rw [if_pos (by omega)] at hv
      rw [List.getElem?_drop, ← hv]
      congr 1
      omega
theorem two_hi (a b : List Nat) (k : Nat) : (two a b k).hi = max a.length (k + b.length) := by simp [two, IB.put, IB.zero]
theorem two_kn (a b : List Nat) (k : Nat) : (two a b k).kn = false := rfl
theorem two_rd (a b : List Nat) (k : Nat) : (two a b k).rd = 0 := rfl
theorem two_ok (a b : List Nat) {k : Nat} (ha : a.length ≤ 60) (hb : b.length ≤ 60) (hk : k ≤ a.length) (Ba : ∀ n ∈ a, n < 256) (Bb : ∀ n ∈ b, n < 256) :
    IB.zero.err 0 a.length false = 0 ∧ (IB.zero.put 0 a false).err k b.length false = 0 ∧ (two a b k).Ok := by
  have h1 : IB.zero.err 0 a.length false = 0 := by
    unfold IB.err
    rw [if_neg (by omega)]
    simp [IB.finErr, IB.zero]
    omega
  have h2 : (IB.zero.put 0 a false).err k b.length false = 0 := by
    unfold IB.err
    rw [if_neg (by omega)]
    simp [IB.finErr, IB.put, IB.zero]
    omega
  exact ⟨h1, h2, IB.put_ok (IB.put_ok IB.zero_ok h1 Ba) h2 Bb⟩
theorem two_over (a b : List Nat) (k : Nat) {off : Nat} (h1 : 2049 ≤ off) (h2 : off ≤ 3048) (h3 : (two a b k).hi ≤ 120) : (two a b k).err off 1 true = 23 := by
  unfold IB.err
  rw [if_neg (by omega)]
  have : (two a b k).finErr (off + 1) true = false := by
    unfold IB.finErr
    rw [two_kn]
    simp
    omega
  rw [this, two_rd]
  simp
  omega
theorem two_final (a b : List Nat) (k : Nat) (h : 0 < (two a b k).hi) : (two a b k).err 0 0 true = 30 := by
  unfold IB.err
  rw [if_neg (by omega)]
  have : (two a b k).finErr (0 + 0) true = true := by
    unfold IB.finErr
    simp
    right
    exact h
  rw [this]
  simp
end Go.Proofs.Ytebiebcpdjipjaa
