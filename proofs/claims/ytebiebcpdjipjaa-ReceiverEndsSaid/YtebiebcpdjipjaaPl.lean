/- DERIVED. Plain: lists of ranges: what each call makes of them. -/
import Derived.Test.YtebiebcpdjipjaaRng
namespace Go.Proofs.Ytebiebcpdjipjaa
open Go.RowKit

def hasP (n : Nat) (r : Rg) : Bool := decide (r.1 ≤ n) && decide (n < r.2)
def meetP (lo hi : Nat) (r : Rg) : Bool := decide (r.1 < hi) && decide (lo < r.2)
theorem take_any {p : Rg → Bool} {xs : List Rg} {k : Nat} {r : Rg} (h : xs[k]? = some r) : (xs.take (k + 1)).any p = ((xs.take k).any p || p r) := by
  rw [List.take_add_one, h]
  simp
def trimL (most : Int) (xs : List Rg) : List Rg := xs.drop (xs.length - most.toNat)
def mostOf (m : Int) : Int := if m ≤ 1 then 1 else m
theorem mostOf_pos (m : Int) : 1 ≤ mostOf m := by unfold mostOf; split <;> omega
/-- Where the search for the first range that meets or touches ends; and the one behind the last. -/
def iOf (xs : List Rg) (lo : Nat) : Nat := (xs.takeWhile (fun x => decide (x.2 < lo))).length
def kOf (xs : List Rg) (i hi : Nat) : Nat := i + ((xs.drop i).takeWhile (fun x => decide (x.1 ≤ hi))).length
def fuse (r : Rg) (m : List Rg) : Rg := m.foldl (fun r x => (min r.1 x.1, max r.2 x.2)) r
def addRaw (xs : List Rg) (lo hi : Nat) : List Rg :=
  xs.take (iOf xs lo) ++ fuse (lo, hi) ((xs.take (kOf xs (iOf xs lo) hi)).drop (iOf xs lo)) :: xs.drop (kOf xs (iOf xs lo) hi)
def addL (most : Int) (xs : List Rg) (lo hi : Nat) : List Rg := trimL most (addRaw xs lo hi)
theorem tw_le (p : Rg → Bool) (xs : List Rg) : (xs.takeWhile p).length ≤ xs.length := (List.takeWhile_prefix p).length_le
theorem tw_lt {p : Rg → Bool} : ∀ {xs : List Rg} {j : Nat}, j < (xs.takeWhile p).length → ∃ r, xs[j]? = some r ∧ p r = true
  | [], j, h => by simp at h
  | x :: xs, j, h => by
    cases hp : p x with
    | true =>
      rw [List.takeWhile_cons_of_pos hp] at h
      cases j with
      | zero => exact ⟨x, rfl, hp⟩
      | succ j =>
        obtain ⟨r, h1, h2⟩ := tw_lt (xs := xs) (j := j) (by simpa using h)
        exact ⟨r, by simpa using h1, h2⟩
    | false =>
      rw [List.takeWhile_cons_of_neg (by simp [hp])] at h
      simp at h
theorem tw_end {p : Rg → Bool} : ∀ {xs : List Rg} {r : Rg}, xs[(xs.takeWhile p).length]? = some r → p r = false
  | [], r, h => by simp at h
  | x :: xs, r, h => by
    cases hp : p x with
    | true =>
      rw [List.takeWhile_cons_of_pos hp] at h
      simp only [List.length_cons, List.getElem?_cons_succ] at h
      exact tw_end h
    | false =>
      rw [List.takeWhile_cons_of_neg (by simp [hp])] at h
      simp at h
      subst h
      exact hp
theorem iOf_lt {xs : List Rg} {lo j : Nat} (h : j < iOf xs lo) : ∃ r, xs[j]? = some r ∧ r.2 < lo := by
  obtain ⟨r, h1, h2⟩ := tw_lt h
  exact ⟨r, h1, by simpa using h2⟩
theorem iOf_end {xs : List Rg} {lo : Nat} {r : Rg} (h : xs[iOf xs lo]? = some r) : lo ≤ r.2 := by
  have := tw_end h
  simpa using this
theorem iOf_le (xs : List Rg) (lo : Nat) : iOf xs lo ≤ xs.length := tw_le _ _
theorem kOf_le {xs : List Rg} {i : Nat} (hi : Nat) (h : i ≤ xs.length) : kOf xs i hi ≤ xs.length := by
  unfold kOf
  have := tw_le (fun x => decide (x.1 ≤ hi)) (xs.drop i)
  rw [List.length_drop] at this
  omega
theorem kOf_ge (xs : List Rg) (i hi : Nat) : i ≤ kOf xs i hi := by unfold kOf; omega
theorem kOf_lt {xs : List Rg} {i hi j : Nat} (h1 : i ≤ j) (h : j < kOf xs i hi) : ∃ r, xs[j]? = some r ∧ r.1 ≤ hi := by
  unfold kOf at h
  obtain ⟨r, h2, h3⟩ := tw_lt (p := fun x => decide (x.1 ≤ hi)) (xs := xs.drop i) (j := j - i) (by omega)
  rw [List.getElem?_drop, show i + (j - i) = j by omega] at h2
  exact ⟨r, h2, by simpa using h3⟩
theorem kOf_end {xs : List Rg} {i hi : Nat} {r : Rg} (h : xs[kOf xs i hi]? = some r) : hi < r.1 := by
  unfold kOf at h
  rw [← List.getElem?_drop] at h
  have := tw_end h
  simpa using this
theorem fuse_step {r x : Rg} {xs : List Rg} {i k : Nat} (hik : i ≤ k) (hx : xs[k]? = some x) :
    fuse r ((xs.take (k + 1)).drop i) = (min (fuse r ((xs.take k).drop i)).1 x.1, max (fuse r ((xs.take k).drop i)).2 x.2) := by
  have hk : k < xs.length := (List.getElem?_eq_some_iff.1 hx).1
  rw [List.take_add_one, hx, List.drop_append_of_le_length (by rw [List.length_take]; omega)]
  simp [fuse]
/-- Rising ranges, none touching another, of numbers that may be. -/
def Norm (xs : List Rg) : Prop := (∀ r ∈ xs, r.1 < r.2 ∧ r.2 ≤ 4611686018427387904) ∧ xs.Pairwise (fun a b => a.2 < b.1)
theorem Norm.at {xs : List Rg} (h : Norm xs) {k : Nat} {r : Rg} (hr : xs[k]? = some r) : r.1 < r.2 ∧ r.2 ≤ 4611686018427387904 := h.1 r (List.mem_of_getElem? hr)
def topL (xs : List Rg) : Nat := match xs.getLast? with | some r => r.2 - 1 | none => 0
def someL (xs : List Rg) : Bool := match xs with | [] => false | _ => true
def cntL (xs : List Rg) : Nat := (xs.map fun r => r.2 - r.1).sum
theorem cntL_take {xs : List Rg} {k : Nat} {r : Rg} (h : xs[k]? = some r) : cntL (xs.take (k + 1)) = cntL (xs.take k) + (r.2 - r.1) := by
  rw [List.take_add_one, h]
  simp [cntL]
theorem cntL_room : ∀ (xs : List Rg) (a : Nat), Norm xs → (∀ r ∈ xs, a ≤ r.1) → a ≤ 4611686018427387904 → cntL xs + a ≤ 4611686018427387904
  | [], a, _, _, ha => by simpa [cntL] using ha
  | r :: xs, a, hn, hl, _ => by
    obtain ⟨h1, h2⟩ := List.pairwise_cons.1 hn.2
    have hr := hn.1 r (List.mem_cons_self ..)
    have := cntL_room xs r.2 ⟨fun x hx => hn.1 x (List.mem_cons_of_mem _ hx), h2⟩ (fun x hx => Nat.le_of_lt (h1 x hx)) hr.2
    have ha := hl r (List.mem_cons_self ..)
    have : cntL (r :: xs) = r.2 - r.1 + cntL xs := by simp [cntL]
    omega
theorem Norm.take {xs : List Rg} (h : Norm xs) (k : Nat) : Norm (xs.take k) :=
  ⟨fun r hr => h.1 r (List.mem_of_mem_take hr), h.2.sublist (List.take_sublist _ _)⟩
theorem cntL_le {xs : List Rg} (h : Norm xs) : cntL xs ≤ 4611686018427387904 := by
  have := cntL_room xs 0 h (fun _ _ => Nat.zero_le _) (by omega)
  omega
/-- From where, and up to where: what Gap's loop leaves. -/
def gapF : List Rg → Nat → Nat → Nat × Nat
  | [], f, t => (f, t)
  | r :: rs, f, t => if r.2 ≤ f then gapF rs f t else if f < r.1 then (f, min t r.1) else gapF rs r.2 t
def gapL (xs : List Rg) (f t : Nat) : Rg × Bool := if (gapF xs f t).2 ≤ (gapF xs f t).1 then ((0, 0), false) else (gapF xs f t, true)
theorem drop_at {xs : List Rg} {k : Nat} {r : Rg} (h : xs[k]? = some r) : xs.drop k = r :: xs.drop (k + 1) := by
  obtain ⟨h1, h2⟩ := List.getElem?_eq_some_iff.1 h
  rw [← h2]
  exact List.drop_eq_getElem_cons h1
def cut1 (lo hi : Nat) (r : Rg) : List Rg :=
  if hi ≤ lo ∨ r.2 ≤ lo ∨ hi ≤ r.1 then [r] else (if r.1 < lo then [(r.1, lo)] else []) ++ (if hi < r.2 then [(hi, r.2)] else [])
def cutRaw (lo hi : Nat) (xs : List Rg) : List Rg := xs.flatMap (cut1 lo hi)
theorem cut1_len (lo hi : Nat) (r : Rg) : (cut1 lo hi r).length ≤ 2 := by
  unfold cut1
  repeat' split
  all_goals simp
theorem cutRaw_take {lo hi : Nat} {xs : List Rg} {k : Nat} {r : Rg} (h : xs[k]? = some r) : cutRaw lo hi (xs.take (k + 1)) = cutRaw lo hi (xs.take k) ++ cut1 lo hi r := by
  rw [List.take_add_one, h]
  simp [cutRaw]
theorem cutRaw_len (lo hi : Nat) : ∀ xs : List Rg, (cutRaw lo hi xs).length ≤ 2 * xs.length
  | [] => by simp [cutRaw]
  | r :: xs => by
    have h1 := cut1_len lo hi r
    have h2 := cutRaw_len lo hi xs
    have : (cutRaw lo hi (r :: xs)).length = (cut1 lo hi r).length + (cutRaw lo hi xs).length := by simp [cutRaw]
    simp only [List.length_cons]
    omega
def fromR (f : Nat) (r : Rg) : Nat := if r.1 ≤ f ∧ f < r.2 then r.2 else f
def endR (f : Nat) (e : Nat) (r : Rg) : Nat := if f < r.1 then min e r.1 else e
def gapR (xs : List Rg) (f t : Nat) : Rg × Bool :=
  if t ≤ xs.foldl fromR f then ((0, 0), false) else ((xs.foldl fromR f, xs.foldl (endR (xs.foldl fromR f)) t), true)
theorem foldl_take {β : Type} (g : β → Rg → β) (b : β) {xs : List Rg} {k : Nat} {r : Rg} (h : xs[k]? = some r) : (xs.take (k + 1)).foldl g b = g ((xs.take k).foldl g b) r := by
  rw [List.take_add_one, h]
  simp
theorem from_lt {xs : List Rg} (h : Norm xs) : ∀ {f : Nat}, f < 18446744073709551616 → xs.foldl fromR f < 18446744073709551616 := by
  have h1 := h.1
  clear h
  induction xs with
  | nil => intro f hf; exact hf
  | cons r xs ih =>
    intro f hf
    refine ih (fun x hx => h1 x (List.mem_cons_of_mem _ hx)) (f := fromR f r) ?_
    have := h1 r (List.mem_cons_self ..)
    unfold fromR
    split <;> omega
theorem end_le (f : Nat) (xs : List Rg) : ∀ e : Nat, xs.foldl (endR f) e ≤ e := by
  induction xs with
  | nil => intro e; exact Nat.le_refl _
  | cons r xs ih =>
    intro e
    refine Nat.le_trans (ih (endR f e r)) ?_
    unfold endR
    split <;> omega
structure Ra where
  out : List Rg
  x : Rg
  done : Bool
def Ra.step (s : Ra) (r : Rg) : Ra :=
  if r.2 < s.x.1 then ⟨s.out ++ [r], s.x, s.done⟩
  else if s.x.2 < r.1 then ⟨(if s.done then s.out else s.out ++ [s.x]) ++ [r], s.x, true⟩
  else ⟨s.out, (min s.x.1 r.1, max s.x.2 r.2), s.done⟩
def raOf (lo hi : Nat) (xs : List Rg) : Ra := xs.foldl Ra.step ⟨[], (lo, hi), false⟩
def addR (lo hi : Nat) (xs : List Rg) : List Rg := if (raOf lo hi xs).done then (raOf lo hi xs).out else (raOf lo hi xs).out ++ [(raOf lo hi xs).x]
theorem raOf_take {lo hi : Nat} {xs : List Rg} {k : Nat} {r : Rg} (h : xs[k]? = some r) : raOf lo hi (xs.take (k + 1)) = (raOf lo hi (xs.take k)).step r := by
  rw [raOf, List.take_add_one, h]
  simp [raOf]
theorem Ra.step_len (s : Ra) (r : Rg) : (s.step r).out.length ≤ s.out.length + 2 := by
  unfold Ra.step
  repeat' split
  all_goals simp
theorem raOf_len (lo hi : Nat) : ∀ xs : List Rg, (raOf lo hi xs).out.length ≤ 2 * xs.length := by
  have h : ∀ (xs : List Rg) (s : Ra), (xs.foldl Ra.step s).out.length ≤ s.out.length + 2 * xs.length := by
    intro xs
    induction xs with
    | nil => intro s; simp
    | cons r xs ih =>
      intro s
      have h1 := ih (s.step r)
      have h2 := s.step_len r
      simp only [List.foldl_cons, List.length_cons]
      omega
  intro xs
  have := h xs ⟨[], (lo, hi), false⟩
  simpa [raOf] using this
end Go.Proofs.Ytebiebcpdjipjaa
