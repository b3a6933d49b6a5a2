/- DERIVED. Plain: a buffer that puts bytes in order: what lies from the next byte on. -/
import Derived.Test.YtebiebcpdjipjaaBase
namespace Go.Proofs.Ytebiebcpdjipjaa

/-- What a place holds. -/
def gt (L : List (Option Nat)) (j : Nat) : Option Nat := (L[j]?).join
theorem gt_nil (j : Nat) : gt [] j = none := by simp [gt]
theorem gt_ge {L : List (Option Nat)} {j : Nat} (h : L.length ≤ j) : gt L j = none := by
  unfold gt
  rw [List.getElem?_eq_none h]
  rfl
def ext (L : List (Option Nat)) (k : Nat) : List (Option Nat) := L ++ List.replicate (k + 1 - L.length) none
theorem ext_len (L : List (Option Nat)) (k : Nat) : (ext L k).length = max L.length (k + 1) := by
  simp [ext]
  omega
theorem gt_ext (L : List (Option Nat)) (k j : Nat) : gt (ext L k) j = gt L j := by
  unfold gt ext
  rw [List.getElem?_append]
  split
  · rfl
  · rename_i h
    rw [List.getElem?_eq_none (l := L) (by omega), List.getElem?_replicate]
    split <;> rfl
/-- One byte comes: the first one stands. -/
def put1 (L : List (Option Nat)) (k v : Nat) : List (Option Nat) := if (gt L k).isSome then ext L k else (ext L k).set k (some v)
theorem put1_len (L : List (Option Nat)) (k v : Nat) : (put1 L k v).length = max L.length (k + 1) := by
  unfold put1
  split <;> simp [ext_len]
theorem gt_put1 (L : List (Option Nat)) (k v j : Nat) : gt (put1 L k v) j = if j = k then (if (gt L k).isSome then gt L k else some v) else gt L j := by
  unfold put1
  by_cases h : (gt L k).isSome
  · rw [if_pos h, if_pos h, gt_ext]
    split
    · rename_i e; rw [e]
    · rfl
  · rw [if_neg h, if_neg h]
    by_cases e : j = k
    · subst e
      rw [if_pos rfl]
      unfold gt
      rw [List.getElem?_set_self (by rw [ext_len]; omega)]
      rfl
    · rw [if_neg e, ← gt_ext L k j]
      unfold gt
      rw [List.getElem?_set_ne (fun h => e h.symm)]
/-- One byte at an offset. -/
def putAt (rd : Nat) (s : List (Option Nat) × Nat) (v : Nat) : List (Option Nat) × Nat := (if s.2 < rd then s.1 else put1 s.1 (s.2 - rd) v, s.2 + 1)
def putN (rd off : Nat) (L : List (Option Nat)) (d : List Nat) : List (Option Nat) := (d.foldl (putAt rd) (L, off)).1
theorem putN_at (rd off : Nat) (L : List (Option Nat)) (d : List Nat) : d.foldl (putAt rd) (L, off) = (putN rd off L d, off + d.length) := by
  unfold putN
  have : ∀ (d : List Nat) (s : List (Option Nat) × Nat), (d.foldl (putAt rd) s).2 = s.2 + d.length := by
    intro d
    induction d with
    | nil => intro s; rfl
    | cons v d ih => intro s; simp only [List.foldl_cons, ih]; simp [putAt]; omega
  rw [← this d (L, off)]
theorem putN_snoc (rd off : Nat) (L : List (Option Nat)) (d : List Nat) (v : Nat) : putN rd off L (d ++ [v]) = if off + d.length < rd then putN rd off L d else put1 (putN rd off L d) (off + d.length - rd) v := by
  have h := putN_at rd off L d
  unfold putN at *
  rw [List.foldl_append]
  simp only [List.foldl_cons, List.foldl_nil]
  rw [h]
  rfl
theorem putN_nil (rd off : Nat) (L : List (Option Nat)) : putN rd off L [] = L := rfl
theorem snoc_ind {p : List Nat → Prop} (h0 : p []) (h1 : ∀ l a, p l → p (l ++ [a])) : ∀ l, p l := by
  intro l
  have : ∀ m : List Nat, p m.reverse := by
    intro m
    induction m with
    | nil => simpa using h0
    | cons a m ih => simpa using h1 _ a ih
  have := this l.reverse
  simpa using this
/-- What lies there behind it. -/
theorem gt_putN (rd off : Nat) (L : List (Option Nat)) : ∀ (d : List Nat) (j : Nat),
    gt (putN rd off L d) j = if (gt L j).isSome then gt L j else if off ≤ rd + j then d[rd + j - off]? else none := by
  apply snoc_ind
  · intro j
    rw [putN_nil]
    by_cases h : (gt L j).isSome
    · rw [if_pos h]
    · rw [if_neg h]
      simp at h
      rw [h]
      split <;> simp
  · intro d v ih j
    rw [putN_snoc]
    by_cases h1 : off + d.length < rd
    · rw [if_pos h1, ih j]
      split
      · rfl
      · split
        · rw [List.getElem?_eq_none (by omega), List.getElem?_eq_none (by simp; omega)]
        · rfl
    · rw [if_neg h1, gt_put1, ih j, ih (off + d.length - rd)]
      by_cases e : j = off + d.length - rd
      · subst e
        rw [if_pos rfl]
        have e2 : rd + (off + d.length - rd) - off = d.length := by omega
        have e3 : off ≤ rd + (off + d.length - rd) := by omega
        by_cases h : (gt L (off + d.length - rd)).isSome
        · simp [h]
        · rw [if_neg h, if_neg h, if_pos e3, if_pos e3, e2]
          simp
      · rw [if_neg e]
        split
        · rfl
        · split
          · rw [List.getElem?_append]
            split
            · rfl
            · rw [List.getElem?_eq_none (by omega), List.getElem?_eq_none (by simp; omega)]
          · rfl
theorem putN_len (rd off : Nat) (L : List (Option Nat)) : ∀ d : List Nat, (putN rd off L d).length = max L.length (if d = [] then 0 else off + d.length - rd) := by
  apply snoc_ind
  · simp [putN_nil]
  · intro d v ih
    rw [putN_snoc]
    by_cases h1 : off + d.length < rd
    · rw [if_pos h1, ih]
      by_cases hd : d = []
      · subst hd
        simp at h1 ⊢
        omega
      · simp [hd]
        omega
    · rw [if_neg h1, put1_len, ih]
      by_cases hd : d = []
      · subst hd
        simp at h1 ⊢
        omega
      · simp [hd]
        omega

/-- How many bytes could be read. -/
def rdy (L : List (Option Nat)) : Nat := (L.takeWhile Option.isSome).length
theorem rdy_le (L : List (Option Nat)) : rdy L ≤ L.length := by
  unfold rdy
  exact (List.takeWhile_sublist _).length_le
theorem rdy_lt : ∀ {L : List (Option Nat)} {j : Nat}, j < rdy L → ∃ v, gt L j = some v
  | [], j, h => by simp [rdy] at h
  | none :: L, j, h => by simp [rdy] at h
  | some v :: L, j, h => by
    cases j with
    | zero => exact ⟨v, rfl⟩
    | succ j =>
      have : j < rdy L := by simp [rdy] at h ⊢; omega
      obtain ⟨u, hu⟩ := rdy_lt this
      exact ⟨u, by simpa [gt] using hu⟩
theorem rdy_end : ∀ (L : List (Option Nat)), gt L (rdy L) = none
  | [] => rfl
  | none :: L => by simp [rdy, gt]
  | some v :: L => by
    have := rdy_end L
    simpa [rdy, gt] using this
theorem rdy_is {L : List (Option Nat)} {n : Nat} (h1 : ∀ j, j < n → (gt L j).isSome = true) (h2 : gt L n = none) : rdy L = n := by
  rcases Nat.lt_trichotomy (rdy L) n with h | h | h
  · have := h1 _ h
    rw [rdy_end] at this
    simp at this
  · exact h
  · obtain ⟨v, hv⟩ := rdy_lt h
    rw [h2] at hv
    cases hv
theorem gt_drop (L : List (Option Nat)) (n j : Nat) : gt (L.drop n) j = gt L (n + j) := by
  unfold gt
  rw [List.getElem?_drop]
def bytesOf (L : List (Option Nat)) : List Nat := L.map (fun o => o.getD 0)
theorem bytesOf_get {L : List (Option Nat)} {j v : Nat} (h : gt L j = some v) : (bytesOf L)[j]? = some v := by
  unfold gt at h
  unfold bytesOf
  rw [List.getElem?_map]
  cases hx : L[j]? with
  | none => rw [hx] at h; cases h
  | some o =>
    rw [hx] at h
    simp at h
    subst h
    rfl

structure IB where
  rd : Nat
  hi : Nat
  fin : Nat
  kn : Bool
  L : List (Option Nat)
def IB.zero : IB := ⟨0, 0, 0, false, []⟩
def IB.came (s : IB) (k : Nat) : Bool := decide (k < s.rd) || (gt s.L (k - s.rd)).isSome
def IB.finErr (s : IB) (e : Nat) (f : Bool) : Bool := (s.kn && (decide (s.fin < e) || (f && decide (e ≠ s.fin)))) || (f && decide (e < s.hi))
def IB.err (s : IB) (off n : Nat) (f : Bool) : Nat :=
  if 1099511627776 < off ∨ 512 < n then 1 else if s.finErr (off + n) f then 30 else if s.rd + 2048 < off + n then 23 else 0
def IB.put (s : IB) (off : Nat) (d : List Nat) (f : Bool) : IB :=
  ⟨s.rd, max s.hi (off + d.length), if f then off + d.length else s.fin, if f then true else s.kn, putN s.rd off s.L d⟩
def IB.add (s : IB) (off : Nat) (d : List Nat) (f : Bool) : IB := if s.err off d.length f = 0 then s.put off d f else s
def IB.num (s : IB) (most : Int) : Nat := min most.toNat (rdy s.L)
def IB.take (s : IB) (n : Nat) : IB := ⟨s.rd + n, s.hi, s.fin, s.kn, s.L.drop n⟩
def IB.out (s : IB) (n : Nat) : List Nat := (bytesOf s.L).take n
def IB.last (s : IB) : Bool := s.kn && decide (s.rd = s.fin)
def IB.whole (s : IB) : Bool := s.kn && decide (s.rd + rdy s.L = s.fin)
/-- What holds of each buffer. -/
structure IB.Ok (s : IB) : Prop where
  hi : s.hi ≤ 1099511628288
  fin : s.fin ≤ 1099511628288
  len : s.L.length ≤ 2048
  top : s.rd + s.L.length ≤ s.hi
  bys : ∀ j v, gt s.L j = some v → v < 256
theorem IB.zero_ok : IB.zero.Ok := ⟨by decide, by decide, by decide, by decide, by intro j v h; simp [IB.zero, gt] at h⟩
theorem IB.err_zero {s : IB} {off n : Nat} {f : Bool} (h : s.err off n f = 0) : (off ≤ 1099511627776 ∧ n ≤ 512) ∧ s.finErr (off + n) f = false ∧ off + n ≤ s.rd + 2048 := by
  unfold IB.err at h
  by_cases h1 : 1099511627776 < off ∨ 512 < n
  · rw [if_pos h1] at h; cases h
  · rw [if_neg h1] at h
    by_cases h2 : s.finErr (off + n) f = true
    · rw [if_pos h2] at h; cases h
    · rw [if_neg h2] at h
      by_cases h3 : s.rd + 2048 < off + n
      · rw [if_pos h3] at h; cases h
      · exact ⟨by omega, by simpa using h2, by omega⟩
theorem IB.put_ok {s : IB} (h : s.Ok) {off : Nat} {d : List Nat} {f : Bool} (he : s.err off d.length f = 0) (hd : ∀ n ∈ d, n < 256) : (s.put off d f).Ok := by
  obtain ⟨⟨h1, h2⟩, h3, h4⟩ := IB.err_zero he
  have hh := h.hi
  have hf := h.fin
  have ht := h.top
  have hl := h.len
  have e := putN_len s.rd off s.L d
  refine ⟨?_, ?_, ?_, ?_, ?_⟩
  · simp only [IB.put]; omega
  · simp only [IB.put]; split <;> omega
  · simp only [IB.put]
    rw [e]
    split <;> omega
  · simp only [IB.put]
    rw [e]
    split <;> omega
  · intro j v hv
    simp only [IB.put] at hv
    rw [gt_putN] at hv
    split at hv
    · exact h.bys j v hv
    · split at hv
      · exact hd v (List.mem_of_getElem? hv)
      · cases hv
theorem IB.add_ok {s : IB} (h : s.Ok) (off : Nat) {d : List Nat} (f : Bool) (hd : ∀ n ∈ d, n < 256) : (s.add off d f).Ok := by
  unfold IB.add
  split
  · rename_i he
    exact IB.put_ok h he hd
  · exact h
theorem IB.take_ok {s : IB} (h : s.Ok) {n : Nat} (hn : n ≤ rdy s.L) : (s.take n).Ok := by
  have := rdy_le s.L
  have ht := h.top
  have hl := h.len
  refine ⟨h.hi, h.fin, ?_, ?_, ?_⟩
  · simp only [IB.take, List.length_drop]; omega
  · simp only [IB.take, List.length_drop]; omega
  · intro j v hv
    simp only [IB.take] at hv
    rw [gt_drop] at hv
    exact h.bys _ v hv
theorem IB.num_le (s : IB) (most : Int) : s.num most ≤ rdy s.L := Nat.min_le_right _ _
end Go.Proofs.Ytebiebcpdjipjaa
