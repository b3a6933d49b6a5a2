/- DERIVED. Plain: what OutbufCovers asks: pieces that go, are lost, are acknowledged. -/
import Derived.Laws.Rows
import Derived.Laws.Tables
import Derived.Deep.RegionLaw
import Derived.Test.YtncfbaabhceeoaaQK3
import Derived.Test.YtncfbaabhceeoaaQK6
import Derived.Test.YtncfbaabhceeoaaQK8
import Derived.Test.YtncfbaabhceeoaaQK9
import Derived.Test.YtncfbaabhceeoaaQK10
set_option linter.all false
namespace Go.Proofs.Ytncfbaabhceeoaa
open Go.RowKit

theorem mem_of {xs : List Rg} {r : Rg} (h : r ∈ xs) {j : Nat} (h1 : r.1 ≤ j) (h2 : j < r.2) : mem xs j = true := by
  unfold mem
  rw [List.any_eq_true]
  exact ⟨r, h, by simp [hasP, h1, h2]⟩
theorem len_from : ∀ (xs : List Rg) (a m : Nat), Norm xs → (∀ r ∈ xs, a ≤ r.1) → (∀ r ∈ xs, r.2 ≤ m) → xs.length ≤ m - a
  | [], _, _, _, _, _ => by simp
  | r :: xs, a, m, hn, h1, h2 => by
    obtain ⟨⟨h3, h4⟩, h5⟩ := hn.head
    have ha := h1 r (List.mem_cons_self ..)
    have hm := h2 r (List.mem_cons_self ..)
    have := len_from xs r.2 m hn.tail (fun x hx => by have := h5 x hx; omega) (fun x hx => h2 x (List.mem_cons_of_mem _ hx))
    rw [List.length_cons]
    omega
theorem mem_top {xs : List Rg} {m : Nat} (hn : Norm xs) (h : ∀ j, mem xs j = true → j < m) : ∀ r ∈ xs, r.2 ≤ m := by
  intro r hr
  have h1 := hn.1 r hr
  have := h (r.2 - 1) (mem_of hr (by omega) (by omega))
  omega
theorem len_mem {xs : List Rg} {m : Nat} (hn : Norm xs) (h : ∀ j, mem xs j = true → j < m) : xs.length ≤ m := by
  have := len_from xs 0 m hn (fun _ _ => Nat.zero_le _) (mem_top hn h)
  omega
theorem at_facts {xs : List Rg} {n : Nat} (hn : Norm xs) : atOf xs n ≤ n ∧ (∀ k, k < atOf xs n → mem xs k = true) ∧ (atOf xs n < n → mem xs (atOf xs n) = false) := by
  obtain ⟨i1, i2, i3, i4⟩ := gapF_facts n xs 0 hn
  obtain ⟨_, _, j3⟩ := gapF_is n xs 0 hn
  unfold atOf gapL
  by_cases h : (gapF xs 0 n).2 ≤ (gapF xs 0 n).1
  · rw [if_pos h]
    have h2 := j3.1 h
    refine ⟨Nat.le_refl _, fun k hk => ?_, fun hk => absurd hk (Nat.lt_irrefl _)⟩
    have hk : k < n := hk
    exact i3 k (Nat.zero_le _) (by omega)
  · rw [if_neg h]
    have h' : (gapF xs 0 n).1 < (gapF xs 0 n).2 := by omega
    refine ⟨?_, fun k hk => i3 k (Nat.zero_le _) hk, fun _ => i4 _ (Nat.le_refl _) h'⟩
    show (gapF xs 0 n).1 ≤ n
    omega
theorem at_mono {xs zs : List Rg} {n : Nat} (hx : Norm xs) (hz : Norm zs) (h : ∀ k, mem xs k = true → mem zs k = true) : atOf xs n ≤ atOf zs n := by
  obtain ⟨a1, a2, a3⟩ := at_facts (n := n) hx
  obtain ⟨b1, b2, b3⟩ := at_facts (n := n) hz
  rcases Nat.lt_or_ge (atOf zs n) (atOf xs n) with h1 | h1
  · have h2 := h _ (a2 _ h1)
    have h3 := b3 (by omega)
    rw [h2] at h3
    cases h3
  · exact h1
theorem at_all {xs : List Rg} {n : Nat} (hx : Norm xs) (h : ∀ k, k < n → mem xs k = true) : atOf xs n = n := by
  obtain ⟨a1, a2, a3⟩ := at_facts (n := n) hx
  rcases Nat.lt_or_ge (atOf xs n) n with h1 | h1
  · have h2 := h _ h1
    rw [a3 h1] at h2
    cases h2
  · omega
set_option maxRecDepth 100000 in
theorem addL_facts {xs : List Rg} {f t : Nat} (hn : Norm xs) (hft : f < t) (ht : t ≤ 1000000) (hl : xs.length ≤ 90000) :
    Norm (addL many xs f t) ∧ (addL many xs f t).length ≤ xs.length + 1 ∧ ∀ j, mem (addL many xs f t) j = (mem xs j || decide (f ≤ j ∧ j < t)) := by
  have e : addL many xs f t = addN xs (f, t) := by
    unfold addL
    rw [addRaw_is hft xs hn]
    exact trim_all (by have := addN_len xs (f, t); unfold many; omega)
  rw [e]
  refine ⟨addN_norm xs _ hft (by omega) hn, addN_len xs _, fun j => ?_⟩
  show (addN xs (f, t)).any (hasP j) = _
  rw [any_addN j xs _ hft hn, Bool.or_comm]
  have e2 : hasP j (f, t) = decide (f ≤ j ∧ j < t) := by simp [hasP]
  rw [e2]
  rfl
theorem cutRaw_facts {xs : List Rg} {f t : Nat} (hn : Norm xs) (hft : f ≤ t) : ∀ j, mem (cutRaw f t xs) j = (mem xs j && !decide (f ≤ j ∧ j < t)) := by
  intro j
  rcases Nat.lt_or_ge f t with h | h
  · show (cutRaw f t xs).any (hasP j) = _
    rw [any_cut j f t h xs hn]
    simp [hasP, mem]
  · rw [cut_none h]
    have : ¬ (f ≤ j ∧ j < t) := by omega
    simp [this]
/-- What becomes of what is lost, number by number. -/
theorem lostY_facts {s : OS} {y0 : List Rg} (hx : Norm s.xs) (hy : Norm y0) : ∀ k, k ≤ s.xs.length → Norm (lostY s y0 k) ∧ ∀ j, mem (lostY s y0 k) j = (mem y0 j && !mem (s.xs.take k) j) := by
  intro k
  induction k with
  | zero => intro _; exact ⟨hy, fun j => by simp [lostY, mem]⟩
  | succ k ih =>
    intro hk
    obtain ⟨h1, h2⟩ := ih (by omega)
    obtain ⟨r, hr⟩ : ∃ r, s.xs[k]? = some r := ⟨_, List.getElem?_eq_getElem (by omega)⟩
    have hrb := hx.1 r (List.mem_of_getElem? hr)
    rw [lostY_succ hr]
    refine ⟨cut_norm _ _ _ h1, fun j => ?_⟩
    rw [cutRaw_facts h1 (by omega), h2]
    have e : mem (s.xs.take (k + 1)) j = (mem (s.xs.take k) j || hasP j r) := take_any hr
    rw [e]
    have e2 : hasP j r = decide (r.1 ≤ j ∧ j < r.2) := by simp [hasP]
    rw [e2]
    cases mem y0 j <;> cases mem (s.xs.take k) j <;> simp

/-- Between two rounds. -/
structure CI (s : OS) (n : Nat) (wt : List Bool) (e : Bool) : Prop where
  ok : s.Ok
  len : s.B.length = n
  n200 : n ≤ 200
  fi : s.fi = true
  wl : wt.length = n
  wv : ∀ j, j < n → wt[j]? = some (mem s.xs j)
  xb : ∀ j, mem s.xs j = true → j < s.sent
  yb : ∀ j, mem s.ys j = true → j < s.sent ∧ mem s.xs j = false
  cov : ∀ j, j < s.sent → mem s.xs j = true ∨ mem s.ys j = true
  base : s.base = atOf s.xs n
  ea : s.ea = e
  es : s.es = true → s.ea = true ∨ s.el = true
/-- A piece, or the end, is under way. -/
structure CM (s : OS) (n : Nat) (wt : List Bool) (e : Bool) (f t : Nat) (fin : Bool) : Prop where
  ok : s.Ok
  len : s.B.length = n
  n200 : n ≤ 200
  fi : s.fi = true
  wl : wt.length = n
  wv : ∀ j, j < n → wt[j]? = some (mem s.xs j)
  xb : ∀ j, mem s.xs j = true → j < s.sent
  yb : ∀ j, mem s.ys j = true → j < s.sent ∧ mem s.xs j = false
  cov : ∀ j, j < s.sent → (f ≤ j ∧ j < t) ∨ mem s.xs j = true ∨ mem s.ys j = true
  base : s.base = atOf s.xs n
  ea : s.ea = e
  es : s.es = true → s.ea = true ∨ s.el = true ∨ fin = true
  ft : f ≤ t
  ts : t ≤ s.sent
  pc : ∀ j, f ≤ j → j < t → mem s.xs j = false ∧ mem s.ys j = false
  fn : fin = true → s.es = true ∧ s.ea = false ∧ t = n
  go : f < t ∨ fin = true
theorem CI.ny {s : OS} {n : Nat} {wt : List Bool} {e : Bool} (h : CI s n wt e) : s.ys.length ≤ 200 := by
  have := len_mem h.ok.ny (fun j hj => (h.yb j hj).1)
  have := h.ok.sent
  have := h.len
  have := h.n200
  omega
theorem CI.base_le {s : OS} {n : Nat} {wt : List Bool} {e : Bool} (h : CI s n wt e) {f : Nat} (hf : mem s.xs f = false) : s.base ≤ f := by
  obtain ⟨a1, a2, a3⟩ := at_facts (n := n) h.ok.nx
  rw [h.base]
  rcases Nat.lt_or_ge f (atOf s.xs n) with h1 | h1
  · rw [a2 f h1] at hf
    cases hf
  · exact h1
theorem ende_of {s : OS} (hfi : s.fi = true) (hes : s.es = true → s.ea = true ∨ s.el = true) : s.ende = !s.ea := by
  unfold OS.ende
  rw [hfi]
  cases h1 : s.ea <;> cases h2 : s.es <;> cases h3 : s.el <;> simp
  have := hes h2
  rw [h1, h3] at this
  simp at this
theorem CI.part {s : OS} {n : Nat} {wt : List Bool} {e : Bool} (h : CI s n wt e) :
    (∃ r rest, s.ys = r :: rest ∧ s.part 1000 = (r.1, r.2) ∧ r.1 < r.2 ∧ r.2 ≤ s.sent) ∨ (s.ys = [] ∧ s.part 1000 = (s.sent, n)) := by
  have hl := h.len
  have hs := h.ok.sent
  have hn := h.n200
  cases hy : s.ys with
  | nil =>
    refine .inr ⟨rfl, ?_⟩
    unfold OS.part
    rw [hy]
    show (s.sent, max s.sent (min 1000 s.B.length)) = _
    rw [show max s.sent (min 1000 s.B.length) = n by omega]
  | cons r rest =>
    refine .inl ⟨r, rest, rfl, ?_, ?_, ?_⟩
    · unfold OS.part
      rw [hy]
    · exact (h.ok.ny.1 r (by rw [hy]; exact List.mem_cons_self ..)).1
    · exact mem_top h.ok.ny (fun j hj => (h.yb j hj).1) r (by rw [hy]; exact List.mem_cons_self ..)
theorem bool_not {b : Bool} (h : ¬ b = true) : b = false := by cases b <;> simp_all
theorem CI.goes {s : OS} {n : Nat} {wt : List Bool} {e : Bool} (h : CI s n wt e) {f t : Nat} (hft : f < t) (htn : t ≤ n) (hfs : f ≤ s.sent) (hx : ∀ j, f ≤ j → j < t → mem s.xs j = false) (hy : ∀ j, f ≤ j → j < t → j < s.sent → mem s.ys j = true) :
    CM (s.went f t) n wt e f t (decide (t = s.B.length) && s.ende) := by
  have hc := cutRaw_facts (f := f) (t := t) h.ok.ny (by omega)
  have hcn := cut_norm f t _ h.ok.ny
  have hmx : (s.went f t).sent = max s.sent t := rfl
  have hexs : (s.went f t).xs = s.xs := rfl
  have heys : (s.went f t).ys = cutRaw f t s.ys := rfl
  have hlen := h.len
  have hos := h.ok.sent
  have hyb : ∀ j, mem (s.went f t).ys j = true → j < s.sent ∧ mem s.xs j = false := by
    intro j hj
    rw [heys, hc] at hj
    simp only [Bool.and_eq_true] at hj
    exact h.yb j hj.1
  have hyl := len_mem (xs := cutRaw f t s.ys) hcn (m := s.sent) (fun j hj => (hyb j hj).1)
  have hn := h.n200
  have hende := ende_of h.fi h.es
  refine { ok := ⟨h.ok.len, h.ok.base, by rw [hmx]; show _ ≤ s.B.length; omega, h.ok.nx, hcn, h.ok.lx, by show (cutRaw f t s.ys).length ≤ _; omega, h.ok.bys⟩, len := h.len, n200 := h.n200, fi := h.fi, wl := h.wl, wv := h.wv, xb := ?_, yb := ?_, cov := ?_, base := h.base, ea := h.ea, es := ?_, ft := by omega, ts := by rw [hmx]; omega, pc := ?_, fn := ?_, go := .inl hft }
  · intro j hj
    have := h.xb j hj
    rw [hmx]
    omega
  · intro j hj
    obtain ⟨h1, h2⟩ := hyb j hj
    rw [hmx]
    exact ⟨by omega, h2⟩
  · intro j hj
    rw [hmx] at hj
    by_cases h1 : f ≤ j ∧ j < t
    · exact .inl h1
    · have h2 : j < s.sent := by omega
      rcases h.cov j h2 with h3 | h3
      · exact .inr (.inl h3)
      · refine .inr (.inr ?_)
        rw [heys, hc, h3]
        simp [h1]
  · intro hes
    show s.ea = true ∨ (s.el && !(decide (t = s.B.length) && s.ende)) = true ∨ _
    have hes2 : (s.es || (decide (t = s.B.length) && s.ende)) = true := hes
    cases hq : (decide (t = s.B.length) && s.ende)
    · rw [hq] at hes2
      rcases h.es (by simpa using hes2) with h1 | h1
      · exact .inl h1
      · exact .inr (.inl (by simp [h1]))
    · exact .inr (.inr rfl)
  · intro j h1 h2
    refine ⟨hx j h1 h2, ?_⟩
    rw [heys, hc]
    simp [h1, h2]
  · intro hq
    refine ⟨?_, ?_, ?_⟩
    · show (s.es || (decide (t = s.B.length) && s.ende)) = true
      rw [hq]
      simp
    · show s.ea = false
      simp only [Bool.and_eq_true] at hq
      rw [hende] at hq
      simpa using hq.2
    · simp only [Bool.and_eq_true, decide_eq_true_eq] at hq
      omega
/-- What Next does between two rounds. -/
theorem CI.next {s : OS} {n : Nat} {wt : List Bool} {e : Bool} (h : CI s n wt e) {k : Nat} (hk : 1 ≤ k) :
    (∃ f t0 t, s.part 1000 = (f, t0) ∧ s.base ≤ f ∧ f < t ∧ min t0 (f + k) = t ∧ t ≤ n ∧ t0 ≤ 1099511627776 ∧ (cutRaw f t s.ys).length ≤ 100000 ∧ CM (s.went f t) n wt e f t (decide (t = s.B.length) && s.ende)) ∨
    (s.ys = [] ∧ s.sent = n ∧ s.ende = true ∧ CM { s with es := true, el := false } n wt e n n true) ∨
    (s.ys = [] ∧ s.sent = n ∧ s.ende = false) := by
  have hl := h.len
  have hs := h.ok.sent
  have hn := h.n200
  have hyl := h.ny
  have hcl : ∀ f t, (cutRaw f t s.ys).length ≤ 100000 := fun f t => by have := cut_le f t _ h.ok.ny; omega
  rcases h.part with ⟨r, rest, hy, hp, h1, h2⟩ | ⟨hy, hp⟩
  · left
    have hr : r ∈ s.ys := by rw [hy]; exact List.mem_cons_self ..
    refine ⟨r.1, r.2, min r.2 (r.1 + k), hp, h.base_le (h.yb r.1 (mem_of hr (Nat.le_refl _) h1)).2, by omega, rfl, by omega, by omega, hcl _ _, ?_⟩
    exact h.goes (by omega) (by omega) (by omega) (fun j q1 q2 => (h.yb j (mem_of hr q1 (by omega))).2) (fun j q1 q2 _ => mem_of hr q1 (by omega))
  · by_cases hsn : s.sent < n
    · left
      refine ⟨s.sent, n, min n (s.sent + k), hp, h.base_le (bool_not (fun q => by have := h.xb _ q; omega)), by omega, rfl, by omega, by omega, hcl _ _, ?_⟩
      exact h.goes (by omega) (by omega) (Nat.le_refl _) (fun j q1 q2 => bool_not (fun q => by have := h.xb _ q; omega)) (fun j q1 q2 q3 => by omega)
    · have hsn : s.sent = n := by omega
      right
      have hende := ende_of h.fi h.es
      cases he : s.ende with
      | false => exact .inr ⟨hy, hsn, rfl⟩
      | true =>
        refine .inl ⟨hy, hsn, rfl, ?_⟩
        exact { ok := ⟨h.ok.len, h.ok.base, h.ok.sent, h.ok.nx, h.ok.ny, h.ok.lx, h.ok.ly, h.ok.bys⟩, len := h.len, n200 := h.n200, fi := h.fi, wl := h.wl, wv := h.wv, xb := h.xb, yb := h.yb, cov := fun j hj => .inr (h.cov j hj), base := h.base, ea := h.ea, es := fun _ => .inr (.inr rfl), ft := Nat.le_refl _, ts := by show n ≤ s.sent; omega, pc := fun j q1 q2 => by omega, fn := fun _ => ⟨rfl, by show s.ea = false; rw [he] at hende; cases hq : s.ea <;> simp_all, rfl⟩, go := .inr rfl }
theorem CM.kn {s : OS} {n : Nat} {wt : List Bool} {e : Bool} {f t : Nat} {fin : Bool} (h : CM s n wt e f t fin) : s.kn f ((t - f : Nat) : Int) = (f, t) := by
  have := h.ft
  have := h.ts
  unfold OS.kn
  simp only [Prod.mk.injEq, Int.toNat_natCast]
  omega
theorem CM.xl {s : OS} {n : Nat} {wt : List Bool} {e : Bool} {f t : Nat} {fin : Bool} (h : CM s n wt e f t fin) : s.xs.length ≤ 200 ∧ s.ys.length ≤ 200 := by
  have h1 := len_mem h.ok.nx h.xb
  have h2 := len_mem h.ok.ny (fun j hj => (h.yb j hj).1)
  have := h.ok.sent
  have := h.len
  have := h.n200
  omega
/-- It is lost. -/
theorem CM.lost {s : OS} {n : Nat} {wt : List Bool} {e : Bool} {f t : Nat} {fin : Bool} (h : CM s n wt e f t fin) :
    Norm (s.lostB (s.kn f ((t - f : Nat) : Int))) ∧ (s.lostB (s.kn f ((t - f : Nat) : Int))).length + s.xs.length ≤ 100000 ∧
    CI { s with ys := lostY s (s.lostB (s.kn f ((t - f : Nat) : Int))) s.xs.length, el := s.el || (fin && s.es) } n wt e := by
  rw [h.kn]
  obtain ⟨l1, l2⟩ := h.xl
  have hs := h.ok.sent
  have hl := h.len
  have hn := h.n200
  have hft := h.ft
  have hts := h.ts
  obtain ⟨a1, a2, a3⟩ : Norm (s.lostB (f, t)) ∧ (s.lostB (f, t)).length ≤ s.ys.length + 1 ∧ ∀ j, mem (s.lostB (f, t)) j = (mem s.ys j || decide (f ≤ j ∧ j < t)) := by
    unfold OS.lostB
    by_cases q : f < t
    · rw [if_pos q]
      exact addL_facts h.ok.ny q (by omega) (by omega)
    · rw [if_neg q]
      refine ⟨h.ok.ny, by omega, fun j => ?_⟩
      have : ¬ (f ≤ j ∧ j < t) := by omega
      simp [this]
  obtain ⟨b1, b2⟩ := lostY_facts h.ok.nx a1 s.xs.length (Nat.le_refl _)
  rw [List.take_length] at b2
  have hmy : ∀ j, mem (lostY s (s.lostB (f, t)) s.xs.length) j = ((mem s.ys j || decide (f ≤ j ∧ j < t)) && !mem s.xs j) := fun j => by rw [b2, a3]
  have hyb : ∀ j, mem (lostY s (s.lostB (f, t)) s.xs.length) j = true → j < s.sent ∧ mem s.xs j = false := by
    intro j hj
    rw [hmy] at hj
    simp only [Bool.and_eq_true, Bool.or_eq_true, decide_eq_true_eq, Bool.not_eq_true'] at hj
    refine ⟨?_, hj.2⟩
    rcases hj.1 with h1 | h1
    · exact (h.yb j h1).1
    · omega
  have hyl := len_mem b1 (fun j hj => (hyb j hj).1)
  refine ⟨a1, by omega, { ok := ⟨h.ok.len, h.ok.base, h.ok.sent, h.ok.nx, b1, h.ok.lx, by show (lostY s (s.lostB (f, t)) s.xs.length).length ≤ _; omega, h.ok.bys⟩, len := h.len, n200 := h.n200, fi := h.fi, wl := h.wl, wv := h.wv, xb := h.xb, yb := hyb, cov := ?_, base := h.base, ea := h.ea, es := ?_ }⟩
  · intro j hj
    show mem s.xs j = true ∨ mem (lostY s (s.lostB (f, t)) s.xs.length) j = true
    rw [hmy]
    cases hq : mem s.xs j
    · right
      rcases h.cov j hj with h1 | h1 | h1
      · simp [h1]
      · rw [hq] at h1
        cases h1
      · simp [h1]
    · exact .inl rfl
  · intro hes
    have hes : s.es = true := hes
    show s.ea = true ∨ (s.el || (fin && s.es)) = true
    rcases h.es hes with h1 | h1 | h1
    · exact .inl h1
    · exact .inr (by simp [h1])
    · exact .inr (by simp [h1, hes])
/-- The flags of what went, m of them from f on. -/
def setT (wt : List Bool) (f : Nat) : Nat → List Bool
  | 0 => wt
  | m + 1 => (setT wt f m).set (f + m) true
theorem setT_len (wt : List Bool) (f : Nat) : ∀ m, (setT wt f m).length = wt.length
  | 0 => rfl
  | m + 1 => by rw [setT, List.length_set, setT_len wt f m]
theorem setT_at (wt : List Bool) (f : Nat) : ∀ m j, j < wt.length → (setT wt f m)[j]? = if f ≤ j ∧ j < f + m then some true else wt[j]?
  | 0, j, _ => by rw [if_neg (by omega)]; rfl
  | m + 1, j, hj => by
    rw [setT, List.getElem?_set]
    by_cases h : f + m = j
    · rw [if_pos h, if_pos (by rw [setT_len]; omega), if_pos (by omega)]
    · rw [if_neg h, setT_at wt f m j hj]
      by_cases h2 : f ≤ j ∧ j < f + m
      · rw [if_pos h2, if_pos (by omega)]
      · rw [if_neg h2, if_neg (by omega)]
/-- How much is left to be acknowledged. -/
def lft (s : OS) (n : Nat) : Nat := n - cnt (mem s.xs) n + if s.ea then 0 else 1
theorem cnt_le (p : Nat → Bool) : ∀ n, cnt p n ≤ n
  | 0 => Nat.le_refl _
  | n + 1 => by have := cnt_le p n; simp only [cnt]; split <;> omega
theorem cnt_mono {p q : Nat → Bool} (h : ∀ k, p k = true → q k = true) : ∀ n, cnt p n ≤ cnt q n
  | 0 => Nat.le_refl _
  | n + 1 => by
    have := cnt_mono h n
    simp only [cnt]
    cases hp : p n
    · simp; omega
    · rw [h n hp]; simp; omega
theorem cnt_more {p q : Nat → Bool} (h : ∀ k, p k = true → q k = true) {f : Nat} (h1 : p f = false) (h2 : q f = true) : ∀ n, f < n → cnt p n + 1 ≤ cnt q n
  | 0, hf => by omega
  | n + 1, hf => by
    simp only [cnt]
    by_cases hfn : f = n
    · subst hfn
      have := cnt_mono h f
      rw [h1, h2]
      simp
      omega
    · have := cnt_more h h1 h2 n (by omega)
      cases hp : p n
      · simp; omega
      · rw [h n hp]; simp; omega
/-- It is acknowledged. -/
theorem CM.acked {s : OS} {n : Nat} {wt : List Bool} {e : Bool} {f t : Nat} {fin : Bool} (h : CM s n wt e f t fin) :
    ∃ zs yz at_, s.ackX (s.kn f ((t - f : Nat) : Int)) = zs ∧ Norm zs ∧ zs.length ≤ 100000 ∧ cutRaw (s.kn f ((t - f : Nat) : Int)).1 (s.kn f ((t - f : Nat) : Int)).2 s.ys = yz ∧ yz.length ≤ 100000 ∧ atOf zs s.B.length = at_ ∧ s.base ≤ at_ ∧ at_ ≤ s.B.length ∧
      CI (s.ackG zs yz at_ fin) n (setT wt f (t - f)) (e || fin) ∧ lft (s.ackG zs yz at_ fin) n + 1 ≤ lft s n := by
  rw [h.kn]
  obtain ⟨l1, l2⟩ := h.xl
  have hs := h.ok.sent
  have hl := h.len
  have hn := h.n200
  have hft := h.ft
  have hts := h.ts
  obtain ⟨a1, a2, a3⟩ : Norm (s.ackX (f, t)) ∧ (s.ackX (f, t)).length ≤ s.xs.length + 1 ∧ ∀ j, mem (s.ackX (f, t)) j = (mem s.xs j || decide (f ≤ j ∧ j < t)) := by
    unfold OS.ackX
    by_cases q : f < t
    · rw [if_pos q]
      exact addL_facts h.ok.nx q (by omega) (by omega)
    · rw [if_neg q]
      refine ⟨h.ok.nx, by omega, fun j => ?_⟩
      have : ¬ (f ≤ j ∧ j < t) := by omega
      simp [this]
  obtain ⟨zs, hz⟩ : ∃ zs, s.ackX (f, t) = zs := ⟨_, rfl⟩
  rw [hz] at a1 a2 a3
  have hcn := cut_norm f t _ h.ok.ny
  have hc := cutRaw_facts (f := f) (t := t) h.ok.ny hft
  have hcl := cut_le f t _ h.ok.ny
  have hup : ∀ k, mem s.xs k = true → mem zs k = true := fun k hk => by rw [a3, hk]; rfl
  obtain ⟨q1, q2, q3⟩ := at_facts (n := n) a1
  have hee : ∀ j, mem zs j = true → j < s.sent := by
    intro j hj
    rw [a3] at hj
    simp only [Bool.or_eq_true, decide_eq_true_eq] at hj
    rcases hj with h1 | h1
    · exact h.xb j h1
    · omega
  refine ⟨zs, cutRaw f t s.ys, atOf zs n, hz, a1, by omega, rfl, by omega, by rw [hl], by rw [h.base]; exact at_mono h.ok.nx a1 hup, by omega, ?_, ?_⟩
  · refine { ok := ⟨h.ok.len, by show atOf zs n ≤ s.B.length; omega, h.ok.sent, a1, hcn, by show zs.length ≤ _; omega, by show (cutRaw f t s.ys).length ≤ _; omega, h.ok.bys⟩, len := h.len, n200 := h.n200, fi := h.fi, wl := by rw [setT_len]; exact h.wl, wv := ?_, xb := hee, yb := ?_, cov := ?_, base := rfl, ea := ?_, es := ?_ }
    · intro j hj
      rw [setT_at wt f _ j (by rw [h.wl]; exact hj), show f + (t - f) = t by omega]
      show _ = some (mem zs j)
      rw [a3, h.wv j hj]
      by_cases q : f ≤ j ∧ j < t
      · rw [if_pos q]
        simp [q]
      · rw [if_neg q]
        simp [q]
    · intro j hj
      have hj : mem (cutRaw f t s.ys) j = true := hj
      rw [hc] at hj
      simp only [Bool.and_eq_true, Bool.not_eq_true', decide_eq_false_iff_not] at hj
      obtain ⟨h1, h2⟩ := h.yb j hj.1
      refine ⟨h1, ?_⟩
      show mem zs j = false
      rw [a3, h2]
      simp [hj.2]
    · intro j hj
      show mem zs j = true ∨ mem (cutRaw f t s.ys) j = true
      rw [a3, hc]
      rcases h.cov j hj with h1 | h1 | h1
      · left; simp [h1]
      · left; simp [h1]
      · by_cases q : f ≤ j ∧ j < t
        · left; simp [q]
        · right; simp [q, h1]
    · show (s.ea || (fin && s.es)) = (e || fin)
      rw [h.ea]
      cases hf : fin
      · simp
      · simp [(h.fn hf).1]
    · intro hes
      have hes : s.es = true := hes
      show (s.ea || (fin && s.es)) = true ∨ s.el = true
      rcases h.es hes with h1 | h1 | h1
      · left; simp [h1]
      · right; exact h1
      · left; simp [h1, hes]
  · show n - cnt (mem zs) n + (if (s.ea || (fin && s.es)) then 0 else 1) + 1 ≤ n - cnt (mem s.xs) n + if s.ea then 0 else 1
    have c1 := cnt_mono hup n
    have c2 := cnt_le (mem zs) n
    rcases h.go with hg | hg
    · have c3 := cnt_more hup (h.pc f (Nat.le_refl _) hg).1 (show mem zs f = true by rw [a3]; simp [hg]) n (by omega)
      cases hq : s.ea
      · simp
        split <;> omega
      · simp
        omega
    · obtain ⟨e1, e2, _⟩ := h.fn hg
      rw [e1, e2, hg]
      simp
      omega
/-- At the end. -/
theorem CI.done {s : OS} {n : Nat} {wt : List Bool} {e : Bool} (h : CI s n wt e) (hy : s.ys = []) (hsn : s.sent = n) (he : s.ende = false) :
    e = true ∧ (∀ j, j < n → wt[j]? = some true) ∧ (s.fi && s.ea && decide (s.base = s.B.length)) = true ∧ s.waits 1000 = false := by
  have hl := h.len
  have hn := h.n200
  have hall : ∀ j, j < n → mem s.xs j = true := by
    intro j hj
    rcases h.cov j (by omega) with h1 | h1
    · exact h1
    · rw [hy] at h1
      simp [mem] at h1
  have hende := ende_of h.fi h.es
  rw [he] at hende
  have hea : s.ea = true := by
    cases hq : s.ea with
    | true => rfl
    | false =>
      rw [hq] at hende
      cases hende
  refine ⟨by rw [← h.ea]; exact hea, fun j hj => by rw [h.wv j hj, hall j hj], ?_, ?_⟩
  · rw [h.fi, hea, h.base, at_all h.ok.nx hall, hl]
    simp
  · unfold OS.waits
    rw [he]
    unfold OS.part
    rw [hy]
    show (decide (s.sent < max s.sent (min 1000 s.B.length)) || _) = false
    have : ¬ s.sent < max s.sent (min 1000 s.B.length) := by omega
    rw [decide_eq_false this, Bool.and_false]
    rfl
theorem CI.lft_le {s : OS} {n : Nat} {wt : List Bool} {e : Bool} (h : CI s n wt e) : lft s n ≤ 201 := by
  have := h.n200
  unfold lft
  split <;> omega
/-- At the start: all is written, and Finish was said. -/
theorem CI.start {A : List Nat} {n : Nat} (h : A.length = n) (hn : n ≤ 200) (hb : Bys A) : CI { OS.zero with B := A, fi := true } n (List.replicate n false) false := by
  have h0 : (OS.zero : OS).xs = [] := rfl
  refine { ok := ⟨by show A.length ≤ _; omega, by show 0 ≤ _; omega, by show 0 ≤ _; omega, ⟨by simp [OS.zero], by simp [OS.zero]⟩, ⟨by simp [OS.zero], by simp [OS.zero]⟩, by simp [OS.zero], by simp [OS.zero], hb⟩, len := h, n200 := hn, fi := rfl, wl := List.length_replicate, wv := ?_, xb := ?_, yb := ?_, cov := ?_, base := ?_, ea := rfl, es := ?_ }
  · intro j hj
    rw [List.getElem?_replicate, if_pos hj]
    rfl
  · intro j hj
    simp [OS.zero, mem] at hj
  · intro j hj
    simp [OS.zero, mem] at hj
  · intro j hj
    simp [OS.zero] at hj
  · show 0 = atOf [] n
    unfold atOf gapL gapF
    by_cases q : n = 0
    · subst q
      rfl
    · simp [q]
  · intro hj
    simp [OS.zero] at hj
end Go.Proofs.Ytncfbaabhceeoaa

/- DERIVED. Frames as values. -/
namespace Go.Proofs.Ytncfbaabhceeoaa
open Go.RowKit

structure Fr where
  kd : Int
  sid : Nat
  off : Nat
  vd : Value
  fin : Bool
  lim : Nat
  code : Nat
  fnl : Nat
  seq : Nat
  dly : Nat
  vr : Value
  c0 : Nat
  c1 : Nat
  c2 : Nat
  c3 : Nat
  c4 : Nat
  c5 : Nat
  c6 : Nat
  c7 : Nat
def encF (f : Fr) : List Value := [.int .i64 f.kd, .int .u64 f.sid, .int .u64 f.off, f.vd, .bool f.fin, .int .u64 f.lim, .int .u64 f.code, .int .u64 f.fnl, .int .u64 f.seq, .int .u64 f.dly, f.vr,
  .int .u8 f.c0, .int .u8 f.c1, .int .u8 f.c2, .int .u8 f.c3, .int .u8 f.c4, .int .u8 f.c5, .int .u8 f.c6, .int .u8 f.c7]
theorem encF_len (f : Fr) : (encF f).length = 19 := rfl
structure FrOk (f : Fr) : Prop where
  kd : -9223372036854775808 ≤ f.kd ∧ f.kd ≤ 9223372036854775807
  sid : f.sid < 18446744073709551616
  off : f.off < 18446744073709551616
  lim : f.lim < 18446744073709551616
  code : f.code < 18446744073709551616
  fnl : f.fnl < 18446744073709551616
theorem sizeF : (Try.prog.info? 39).map (·.size) = some 19 := by kernel_rfl
def zeroF : Fr := ⟨0, 0, 0, .slice none 0 0, false, 0, 0, 0, 0, 0, .slice none 0 0, 0, 0, 0, 0, 0, 0, 0, 0⟩
theorem results_row_tmp {P : Program} {fn : Func} {p u : Tmp} {ty : TypeId} (h : fn.results = #[.cell p ty, .tmp u]) (tmps : Array Value) (w : World) (g : Nat) (t : TypeId) (cs : Array Value) (fr : Nat × Nat) (d : TypeDesc)
    (hp : tmps.getD p undef = .pointer (some ⟨g, 0, none⟩)) (hg : w.heap[g]? = some (.cells cs t fr))
    (hu : P.underlying ty = some d) (hd : (match d with | .struct _ | .array _ _ => true | _ => false) = true) (hi : (P.info? ty).map (·.size) = some cs.size) :
    (results fn tmps).run P w = .ok (.tuple #[.agg cs, tmps.getD u undef]) w := by
  have hp' : tmps[p]?.getD undef = .pointer (some ⟨g, 0, none⟩) := by simpa using hp
  simp [results, h, hp', asAddr, run_loadVar_row w g t ty cs fr d hg hu hd hi]
theorem Upd.setRowN {F : Nat → Prop} {a w : World} (h : Upd F a w) (y : Nat) (hy : F y ∨ a.heap.size ≤ y) (cs : Array Value) : Upd F a (w.setRow y cs) :=
  ⟨h.os, h.tape, h.output, by simpa using h.size, fun k hk q => (setRow_other w y k cs (fun e => by
    subst e
    rcases hy with hy | hy
    · exact q hy
    · omega)).trans (h.block k hk q)⟩
end Go.Proofs.Ytncfbaabhceeoaa

/- DERIVED. The sender: plain, in memory. -/
namespace Go.Proofs.Ytncfbaabhceeoaa
open Go.RowKit

/-- A Reset frame, or the zero one. -/
def resetF (id : Nat) : Option (Nat × Nat) → Fr
  | none => ⟨0, 0, 0, .slice none 0 0, false, 0, 0, 0, 0, 0, .slice none 0 0, 0, 0, 0, 0, 0, 0, 0, 0⟩
  | some x => ⟨4, id, 0, .slice none 0 0, false, 0, x.1, x.2, 0, 0, .slice none 0 0, 0, 0, 0, 0, 0, 0, 0, 0⟩
structure SS where
  id : Nat
  st : Nat
  lim : Nat
  rs : Option (Nat × Nat)
  rq : Bool
  os : OS
def SS.new (id : Nat) : SS := ⟨id, 1, 0, none, false, OS.zero⟩
def SS.closed (s : SS) : Bool := s.os.fi || decide (5 ≤ s.st)
structure SS.Ok (s : SS) : Prop where
  id : s.id < 18446744073709551616
  st : 1 ≤ s.st ∧ s.st ≤ 6
  lim : s.lim < 18446744073709551616
  rs : ∀ x, s.rs = some x → x.1 < 18446744073709551616 ∧ x.2 < 18446744073709551616
def scells (s : SS) (b : Nat) (f : Fr) : Array Value := #[.int .u64 s.id, .int .i64 s.st, .bool s.os.fi, .int .u64 s.lim,
  .int .i64 f.kd, .int .u64 f.sid, .int .u64 f.off, f.vd, .bool f.fin, .int .u64 f.lim, .int .u64 f.code, .int .u64 f.fnl, .int .u64 f.seq, .int .u64 f.dly, f.vr,
  .int .u8 f.c0, .int .u8 f.c1, .int .u8 f.c2, .int .u8 f.c3, .int .u8 f.c4, .int .u8 f.c5, .int .u8 f.c6, .int .u8 f.c7, .bool s.rq, .pointer (some ⟨b, 0, none⟩)]
structure SdAt0 (w : World) (r : Nat) (s : SS) (b : Nat) (fb : Nat → Prop) : Prop where
  blk : w.heap[r]? = some (.cells (scells s b (resetF s.id s.rs)) 86 (0, 0))
  buf : OAt w b s.os fb
  ne : ¬ fb r
  ok : s.Ok
def SdAt (w : World) (r : Nat) (s : SS) (fp : Nat → Prop) : Prop := ∃ b fb, SdAt0 w r s b fb ∧ fp = fun j => j = r ∨ fb j
theorem SdAt.keeps {F fp : Nat → Prop} {w w' : World} {r : Nat} {s : SS} (h : SdAt w r s fp) (hu : Upd F w w') (hF : ∀ k, fp k → ¬ F k) : SdAt w' r s fp := by
  obtain ⟨b, fb, h, rfl⟩ := h
  exact ⟨b, fb, ⟨hu.keeps h.blk (hF r (.inl rfl)), h.buf.keeps hu (fun k hk => hF k (.inr hk)), h.ne, h.ok⟩, rfl⟩
theorem SdAt.lt {fp : Nat → Prop} {w : World} {r : Nat} {s : SS} (h : SdAt w r s fp) : fp r ∧ ∀ k, fp k → k < w.heap.size := by
  obtain ⟨b, fb, h, rfl⟩ := h
  refine ⟨.inl rfl, ?_⟩
  rintro k (rfl | hk)
  · exact heap_lt h.blk
  · exact h.buf.lt.2 k hk
theorem SdAt.below {fp : Nat → Prop} {w w' : World} {r : Nat} {s : SS} (h : SdAt w r s fp) (hb : Below w.heap.size w w') : SdAt w' r s fp :=
  h.keeps (Upd.below hb) (fun k hk => by have := h.lt.2 k hk; omega)
theorem SdAt.drewN {fp : Nat → Prop} {w : World} {r : Nat} {s : SS} (h : SdAt w r s fp) (n : Nat) : SdAt (w.drewN n) r s fp := h.below (below_drewN (Below.refl _ _) n)
theorem SdAt.ok {fp : Nat → Prop} {w : World} {r : Nat} {s : SS} (h : SdAt w r s fp) : s.Ok := by
  obtain ⟨b, fb, h, _⟩ := h
  exact h.ok
theorem SdAt.oOk {fp : Nat → Prop} {w : World} {r : Nat} {s : SS} (h : SdAt w r s fp) : s.os.Ok := by
  obtain ⟨b, fb, h, _⟩ := h
  exact h.buf.ok
theorem SdAt.cells {fp : Nat → Prop} {w : World} {r : Nat} {s : SS} (h : SdAt w r s fp) : w.cell? ⟨r, 0, none⟩ = some (.int .u64 s.id) ∧ w.cell? ⟨r, 1, none⟩ = some (.int .i64 s.st) ∧ w.cell? ⟨r, 2, none⟩ = some (.bool s.os.fi) ∧ w.cell? ⟨r, 3, none⟩ = some (.int .u64 s.lim) ∧
    w.cell? ⟨r, 23, none⟩ = some (.bool s.rq) := by
  obtain ⟨b, fb, h, _⟩ := h
  exact ⟨(cell_at h.blk 0).trans rfl, (cell_at h.blk 1).trans rfl, (cell_at h.blk 2).trans rfl, (cell_at h.blk 3).trans rfl, (cell_at h.blk 23).trans rfl⟩
theorem SdAt.ptr {fp : Nat → Prop} {w : World} {r : Nat} {s : SS} (h : SdAt w r s fp) : ∃ b fb, OAt w b s.os fb ∧ (∀ j, fb j → fp j) ∧ ¬ fb r ∧ w.cell? ⟨r, 24, none⟩ = some (.pointer (some ⟨b, 0, none⟩)) := by
  obtain ⟨b, fb, h, rfl⟩ := h
  exact ⟨b, fb, h.buf, fun j hj => .inr hj, h.ne, (cell_at h.blk 24).trans rfl⟩
/-- What a call turns: the sender is as s', its blocks are those of the call's beginning, or new. -/
def SdM (w0 w : World) (fp : Nat → Prop) (r : Nat) (s : SS) : Prop := ∃ fp', SdAt w r s fp' ∧ Went fp fp' w0 w
theorem SdM.refl {w : World} {fp : Nat → Prop} {r : Nat} {s : SS} (h : SdAt w r s fp) : SdM w w fp r s := ⟨fp, h, Went.refl _ _⟩
theorem SdM.later {w0 w w' : World} {fp : Nat → Prop} {r : Nat} {s : SS} (h : SdM w0 w fp r s) (hb : Below w.heap.size w w') : SdM w0 w' fp r s := by
  obtain ⟨fp', h1, h2⟩ := h
  exact ⟨fp', h1.below hb, h2.later hb⟩
theorem SdM.drewN {w0 w : World} {fp : Nat → Prop} {r : Nat} {s : SS} (h : SdM w0 w fp r s) (n : Nat) : SdM w0 (w.drewN n) fp r s := h.later (below_drewN (Below.refl _ _) n)
theorem SdM.drew {w0 w : World} {fp : Nat → Prop} {r : Nat} {s : SS} (h : SdM w0 w fp r s) : SdM w0 w.drew fp r s := h.later (Below.refl _ _).drew
/-- All of new blocks, from a beginning on. -/
def SdMine (W w : World) (r : Nat) (s : SS) : Prop := ∃ fp, SdAt w r s fp ∧ (∀ k, fp k → W.heap.size ≤ k) ∧ Below W.heap.size W w
theorem SdMine.below {W w : World} {r : Nat} {s : SS} (h : SdMine W w r s) : Below W.heap.size W w := by
  obtain ⟨_, _, _, h⟩ := h
  exact h
theorem SdMine.later {W w w' : World} {r : Nat} {s : SS} (h : SdMine W w r s) (hb : Below w.heap.size w w') : SdMine W w' r s := by
  obtain ⟨fp, h1, h2, h3⟩ := h
  exact ⟨fp, h1.below hb, h2, below_call h3 h3.size hb⟩
theorem SdMine.drewN {W w : World} {r : Nat} {s : SS} (h : SdMine W w r s) (n : Nat) : SdMine W (w.drewN n) r s := h.later (below_drewN (Below.refl _ _) n)
theorem sdm_mine {W w w' : World} {r : Nat} {s' : SS} {fp : Nat → Prop} (hn : ∀ k, fp k → W.heap.size ≤ k) (hb : Below W.heap.size W w) (m : SdM w w' fp r s') : SdMine W w' r s' := by
  obtain ⟨fp', h1, h2⟩ := m
  have hs := hb.size
  exact ⟨fp', h1, fun k hk => by
    rcases h2.new k hk with q | q
    · exact hn k q
    · omega, Upd.belowOf hb h2.upd (fun k hk q => by have := hn k q; omega)⟩
/-- The buffer turned, and then cells of the sender's own block: as s'. -/
theorem sdm_of {w w1 w2 : World} {r : Nat} {s s' : SS} {b : Nat} {fb fp : Nat → Prop} (h : SdAt0 w r s b fb) (hfp : fp = fun j => j = r ∨ fb j) (m : OM w w1 fb b s'.os) (hu : Upd (fun j => j = r) w1 w2)
    (hc : w2.heap[r]? = some (.cells (scells s' b (resetF s'.id s'.rs)) 86 (0, 0))) (ok : s'.Ok) : SdM w w2 fp r s' := by
  obtain ⟨fb', h1, h2⟩ := m
  have hrw := heap_lt h.blk
  have hne : ¬ fb' r := fun q => by
    rcases h2.new r q with e | e
    · exact h.ne e
    · omega
  subst hfp
  refine ⟨fun j => j = r ∨ fb' j, ⟨b, fb', ⟨hc, h1.keeps hu (fun k hk e => hne (e ▸ hk)), hne, ok⟩, rfl⟩, ⟨?_, ?_⟩⟩
  · exact (h2.upd.mono (fun k _ hk => .inr hk)).trans hu (fun _ _ hk => hk) (fun i hi q => .inl q)
  · rintro g (rfl | hg)
    · exact .inl (.inl rfl)
    · rcases h2.new g hg with e | e
      · exact .inl (.inr e)
      · exact .inr e
/-- Cells of the sender's own block, the buffer turned, and cells again: as s'. -/
theorem sdm_two {w w1 w2 w3 : World} {r : Nat} {s s' : SS} {b : Nat} {fb fp : Nat → Prop} (h : SdAt0 w r s b fb) (hfp : fp = fun j => j = r ∨ fb j) (hu1 : Upd (fun j => j = r) w w1) (m : OM w1 w2 fb b s'.os) (hu : Upd (fun j => j = r) w2 w3)
    (hc : w3.heap[r]? = some (.cells (scells s' b (resetF s'.id s'.rs)) 86 (0, 0))) (ok : s'.Ok) : SdM w w3 fp r s' := by
  obtain ⟨fb', h1, h2⟩ := m
  have hrw := heap_lt h.blk
  have hs1 := hu1.size
  have hne : ¬ fb' r := fun q => by
    rcases h2.new r q with e | e
    · exact h.ne e
    · omega
  subst hfp
  refine ⟨fun j => j = r ∨ fb' j, ⟨b, fb', ⟨hc, h1.keeps hu (fun k hk e => hne (e ▸ hk)), hne, ok⟩, rfl⟩, ⟨?_, ?_⟩⟩
  · exact ((hu1.mono (fun k _ hk => .inl hk)).trans (h2.upd.mono (fun k _ hk => .inr hk)) (fun _ _ hk => hk) (fun _ _ hk => hk)).trans hu (fun _ _ hk => hk) (fun i hi q => .inl q)
  · rintro g (rfl | hg)
    · exact .inl (.inl rfl)
    · rcases h2.new g hg with e | e
      · exact .inl (.inr e)
      · right; omega
theorem SdAt0.own {w w1 : World} {r : Nat} {s : SS} {b : Nat} {fb : Nat → Prop} (h : SdAt0 w r s b fb) (hu1 : Upd (fun j => j = r) w w1) : OAt w1 b s.os fb :=
  h.buf.keeps hu1 (fun k hk e => h.ne (e ▸ hk))
/-- The block behind a turn of the buffer. -/
theorem SdAt0.later {w w1 : World} {r : Nat} {s : SS} {b : Nat} {fb : Nat → Prop} {o : OS} (h : SdAt0 w r s b fb) (m : OM w w1 fb b o) : w1.heap[r]? = some (.cells (scells s b (resetF s.id s.rs)) 86 (0, 0)) := by
  obtain ⟨fb', h1, h2⟩ := m
  exact h2.upd.keeps h.blk h.ne
theorem SdM.trans {w0 w w' : World} {fp : Nat → Prop} {r : Nat} {s s' : SS} (m : SdM w0 w fp r s) (h : ∀ fp', SdAt w r s fp' → SdM w w' fp' r s') : SdM w0 w' fp r s' := by
  obtain ⟨fp', h1, h2⟩ := m
  obtain ⟨fp2, h3, h4⟩ := h fp' h1
  exact ⟨fp2, h3, h2.trans h4⟩
theorem SdAt.setSt {w : World} {fp : Nat → Prop} {r : Nat} {s : SS} (h : SdAt w r s fp) (k : Nat) (hk : 1 ≤ k ∧ k ≤ 6) : SdM w (w.setCell ⟨r, 1, none⟩ (.int .i64 k)) fp r { s with st := k } := by
  obtain ⟨b, fb, h0, hfp⟩ := h
  exact sdm_of (s' := { s with st := k }) h0 hfp (OM.refl h0.buf) ((Upd.refl (fun j => j = r) w).setCell ⟨r, 1, none⟩ (.inl rfl) _) (set_at h0.blk 1 _) ⟨h0.ok.id, hk, h0.ok.lim, h0.ok.rs⟩
theorem SdAt.setRq {w : World} {fp : Nat → Prop} {r : Nat} {s : SS} (h : SdAt w r s fp) (x : Bool) : SdM w (w.setCell ⟨r, 23, none⟩ (.bool x)) fp r { s with rq := x } := by
  obtain ⟨b, fb, h0, hfp⟩ := h
  exact sdm_of (s' := { s with rq := x }) h0 hfp (OM.refl h0.buf) ((Upd.refl (fun j => j = r) w).setCell ⟨r, 23, none⟩ (.inl rfl) _) (set_at h0.blk 23 _) ⟨h0.ok.id, h0.ok.st, h0.ok.lim, h0.ok.rs⟩
theorem SdM.setSt {w0 w : World} {fp : Nat → Prop} {r : Nat} {s : SS} (h : SdM w0 w fp r s) (k : Nat) (hk : 1 ≤ k ∧ k ≤ 6) : SdM w0 (w.setCell ⟨r, 1, none⟩ (.int .i64 k)) fp r { s with st := k } := h.trans fun _ h => h.setSt k hk
theorem SdM.setRq {w0 w : World} {fp : Nat → Prop} {r : Nat} {s : SS} (h : SdM w0 w fp r s) (x : Bool) : SdM w0 (w.setCell ⟨r, 23, none⟩ (.bool x)) fp r { s with rq := x } := h.trans fun _ h => h.setRq x
theorem SdM.cell1 {w0 w : World} {fp : Nat → Prop} {r : Nat} {s : SS} (h : SdM w0 w fp r s) : w.cell? ⟨r, 1, none⟩ = some (.int .i64 s.st) ∧ w.frozen? ⟨r, 1, none⟩ = false ∧ w.cell? ⟨r, 23, none⟩ = some (.bool s.rq) ∧ w.frozen? ⟨r, 23, none⟩ = false := by
  obtain ⟨fp', ⟨b, fb, h0, _⟩, _⟩ := h
  exact ⟨(cell_at h0.blk 1).trans rfl, free_at h0.blk 1, (cell_at h0.blk 23).trans rfl, free_at h0.blk 23⟩
theorem SdM.ptr {w0 w : World} {fp : Nat → Prop} {r : Nat} {s : SS} (h : SdM w0 w fp r s) : ∃ b fb, OAt w b s.os fb ∧ w.cell? ⟨r, 24, none⟩ = some (.pointer (some ⟨b, 0, none⟩)) := by
  obtain ⟨fp', h1, _⟩ := h
  obtain ⟨b, fb, h2, _, _, h3⟩ := h1.ptr
  exact ⟨b, fb, h2, h3⟩
end Go.Proofs.Ytncfbaabhceeoaa

/- DERIVED. Walks of sender's New, State, Sent, Length, closed, Write, Finish, Limit. -/
namespace Go.Proofs.Ytncfbaabhceeoaa
open Go.RowKit

set_option maxRecDepth 100000 in
set_option maxHeartbeats 1000000 in
theorem sdnew_any (id : Nat) (w : World) (hid : id < 18446744073709551616) :
    Calls Try.prog 14 #[.int .u64 id] w fun e w' => ∃ r, e = .returned (.pointer (some ⟨r, 0, none⟩)) ∧ SdMine w w' r (SS.new id) := by
  have HB := Lib.hid hid
  go_enter Try.func14, Try.ntmps14
  go_wp2_with fail
  refine (onew_any _).mono ?_
  rintro e w1 ⟨b, fp, rfl, hi, hn, hb⟩
  have HI := Lib.hid (And.intro hi (And.intro hn hb))
  clear hi hn hb
  go_wp2_with fail
  go_ret
  obtain ⟨hi, hn, hb⟩ := HI.out
  have hlt := hi.lt.2
  refine ⟨w1.heap.size, rfl, _, ⟨b, fp, ⟨?_, hi.below ((Below.refl _ _).alloc (Nat.le_refl _) _), fun q => by have := hlt _ q; omega, ⟨HB.out, ⟨by show 1 ≤ 1; omega, by show 1 ≤ 6; omega⟩, by show 0 < _; omega, fun x hx => by cases hx⟩⟩, rfl⟩, ?_, hb.alloc hb.size _⟩
  · exact (alloc_at _ _).trans rfl
  · rintro k (rfl | q)
    · exact hb.size
    · exact hn k q
set_option maxHeartbeats 1000000 in
theorem sstate_q (r : Nat) (s : SS) (fp : Nat → Prop) (w : World) (h : SdAt w r s fp) : Calls Try.prog 26 #[.pointer (some ⟨r, 0, none⟩)] w fun e w' => e = .returned (.int .i64 s.st) ∧ ∃ n, w' = w.drewN n := by
  obtain ⟨_, c, _⟩ := h.cells
  clear h
  go_enter Try.func26, Try.ntmps26
  go_wp2_with fail
  go_ret
  exact ⟨rfl, 0, rfl⟩
set_option maxHeartbeats 1000000 in
theorem ssent_q (r : Nat) (s : SS) (fp : Nat → Prop) (w : World) (h : SdAt w r s fp) : Calls Try.prog 22 #[.pointer (some ⟨r, 0, none⟩)] w fun e w' => e = .returned (.int .u64 s.os.sent) ∧ ∃ n, w' = w.drewN n := by
  obtain ⟨b, fb, hb, _, _, c⟩ := h.ptr
  have HB := Lib.hid hb
  clear h hb
  go_enter Try.func22, Try.ntmps22
  go_wp2_with fail
  refine (osent_q b s.os fb _ (by exact HB.out)).mono ?_
  rintro e w1 ⟨rfl, q, rfl⟩
  go_wp2_with fail
  go_ret
  exact ⟨rfl, q, rfl⟩
set_option maxHeartbeats 1000000 in
theorem sclosed_q (r : Nat) (s : SS) (fp : Nat → Prop) (w : World) (h : SdAt w r s fp) : Calls Try.prog 34 #[.pointer (some ⟨r, 0, none⟩)] w fun e w' => e = .returned (.bool s.closed) ∧ ∃ n, w' = w.drewN n := by
  obtain ⟨_, c1, c2, _⟩ := h.cells
  clear h
  unfold SS.closed
  generalize s.st = st at *
  generalize s.os.fi = fi at *
  cases fi
  · go_enter Try.func34, Try.ntmps34
    go_wp2_with fail
    go_ret
    refine ⟨?_, 0, rfl⟩
    congr 2
    simp
    try omega
  · go_enter Try.func34, Try.ntmps34
    go_wp2_with fail
    go_ret
    exact ⟨rfl, 0, rfl⟩
set_option maxHeartbeats 1000000 in
theorem slimit_any (r : Nat) (s : SS) (fp : Nat → Prop) (n : Nat) (w : World) (h : SdAt w r s fp) (hn : n < 18446744073709551616) :
    Calls Try.prog 19 #[.pointer (some ⟨r, 0, none⟩), .int .u64 n] w fun e w' => e = .returned (.tuple #[]) ∧ SdM w w' fp r { s with lim := max s.lim n } := by
  obtain ⟨_, _, _, c3, _⟩ := h.cells
  obtain ⟨b, fb, h0, hfp⟩ := h
  have hl := h0.ok.lim
  have f3 := free_at h0.blk 3
  obtain ⟨m, hm, hm2⟩ : ∃ m, max s.lim n = m ∧ m < 18446744073709551616 := ⟨_, rfl, by omega⟩
  have HM := Lib.hid (show SdM w (w.setCell ⟨r, 3, none⟩ (.int .u64 m)) fp r { s with lim := max s.lim n } from by
    rw [hm]
    exact sdm_of (s' := { s with lim := m }) h0 hfp ⟨fb, h0.buf, Went.refl _ _⟩ ((Upd.refl (fun j => j = r) w).setCell ⟨r, 3, none⟩ (.inl rfl) _) (set_at h0.blk 3 _) ⟨h0.ok.id, h0.ok.st, hm2, h0.ok.rs⟩)
  have HMM := Lib.hid hm
  generalize s.lim = lim at *
  clear h0 hfp hm
  go_enter Try.func19, Try.ntmps19
  go_wp2_with fail
  · obtain rfl : m = n := by have := HMM.out; omega
    refine bodyPost_end (results_none rfl _ _ _) rfl ?_
    exact ⟨rfl, HM.out⟩
  · obtain rfl : m = lim := by have := HMM.out; omega
    refine bodyPost_end (results_none rfl _ _ _) rfl ?_
    exact ⟨rfl, HM.out⟩
set_option maxRecDepth 100000 in
set_option maxHeartbeats 1000000 in
theorem sfinish_any (r : Nat) (s : SS) (fp : Nat → Prop) (w : World) (h : SdAt w r s fp) :
    Calls Try.prog 17 #[.pointer (some ⟨r, 0, none⟩)] w fun e w' => e = .returned (.int .i64 (if s.closed then 24 else 0 : Nat)) ∧ SdM w w' fp r (if s.closed then s else { s with os := { s.os with fi := true } }) := by
  have H := Lib.hid h
  obtain ⟨b, fb, h0, hfp⟩ := h
  have f2 := free_at h0.blk 2
  have H0 := Lib.hid h0
  have c2 : w.cell? ⟨r, 2, none⟩ = some (.bool s.os.fi) := (cell_at h0.blk 2).trans rfl
  have c24 : w.cell? ⟨r, 24, none⟩ = some (.pointer (some ⟨b, 0, none⟩)) := (cell_at h0.blk 24).trans rfl
  have HFP := Lib.hid hfp
  clear h0 hfp
  cases hcl : s.closed
  · go_enter Try.func17, Try.ntmps17
    go_wp2_with fail
    refine (sclosed_q r s fp _ (by exact H.out)).mono ?_
    rw [hcl]
    rintro e w1 ⟨rfl, q, rfl⟩
    go_wp2_with fail
    have HU := Lib.hid ((Upd.refl (fun j => j = r) w).drewN q |>.setCell ⟨r, 2, none⟩ (.inl rfl) (.bool true))
    refine (ofinish_any b s.os fb _ (by exact H0.out.own HU.out)).mono ?_
    rintro e w2 ⟨rfl, hm⟩
    have hc : w2.heap[r]? = some (.cells (scells { s with os := { s.os with fi := true } } b (resetF s.id s.rs)) 86 (0, 0)) := by
      obtain ⟨fb', h1, h2⟩ := hm
      exact h2.upd.keeps (set_at (show (w.drewN q).heap[r]? = _ from H0.out.blk) 2 (.bool true)) H0.out.ne
    have HM := Lib.hid (sdm_two (s' := { s with os := { s.os with fi := true } }) H0.out HFP.out HU.out hm (Upd.refl _ _) hc ⟨H0.out.ok.id, H0.out.ok.st, H0.out.ok.lim, H0.out.ok.rs⟩)
    clear hc hm
    go_wp2_with fail
    go_ret
    exact ⟨rfl, HM.out⟩
  · go_enter Try.func17, Try.ntmps17
    go_wp2_with fail
    refine (sclosed_q r s fp _ (by exact H.out)).mono ?_
    rw [hcl]
    rintro e w1 ⟨rfl, q, rfl⟩
    go_wp2_with fail
    go_ret
    exact ⟨rfl, SdM.drewN (SdM.refl H.out) q⟩
end Go.Proofs.Ytncfbaabhceeoaa

/- DERIVED. Walks of sender's Write, Reset. -/
namespace Go.Proofs.Ytncfbaabhceeoaa
open Go.RowKit

def SS.wrN (s : SS) (n : Nat) : Nat × Nat := if s.closed then (0, 24) else if 0 < n ∧ s.os.room = 0 then (0, 26) else (min n s.os.room, 0)
def SS.wr (s : SS) (d : List Nat) : SS := if s.closed then s else { s with os := s.os.write d }
theorem write_none {s : OS} {d : List Nat} (h : s.room = 0) : s.write d = s := by
  unfold OS.write
  rw [h, Nat.min_zero, List.take_zero, List.append_nil]
set_option maxRecDepth 100000 in
set_option maxHeartbeats 1000000 in
theorem swrite_any (r : Nat) (s : SS) (fp : Nat → Prop) (vd : Value) (dd : List Nat) (w : World) {B : Nat} (h : SdAt w r s fp) (hd : Vw encB w B vd dd) (hB : B ≤ w.heap.size) (hby : Bys dd) (hroom : s.os.B.length ≤ s.os.base + 2048) (hl1 : dd.length ≤ 1000000) (hl2 : s.os.B.length ≤ 1000000) :
    Calls Try.prog 16 #[.pointer (some ⟨r, 0, none⟩), vd] w fun e w' => e = .returned (.tuple #[.int .i64 (s.wrN dd.length).1, .int .i64 (s.wrN dd.length).2]) ∧ SdM w w' fp r (s.wr dd) := by
  have H := Lib.hid h
  obtain ⟨b, fb, h0, hfp⟩ := h
  have H0 := Lib.hid h0
  have c24 : w.cell? ⟨r, 24, none⟩ = some (.pointer (some ⟨b, 0, none⟩)) := (cell_at h0.blk 24).trans rfl
  have HFP := Lib.hid hfp
  obtain ⟨od, capd, rfl, hc1, hc2⟩ := hd.shape
  have HY := Lib.hid (And.intro hB (And.intro hby (And.intro hroom (And.intro hl1 hl2))))
  obtain ⟨n, hn⟩ : ∃ n, dd.length = n := ⟨_, rfl⟩
  rw [hn] at hc1 hl1 hd ⊢
  have HD := Lib.hid hd
  clear h0 hfp hd hby hroom hl2 hB
  have HN := Lib.hid hn
  clear hn
  obtain ⟨a, c, hac⟩ : ∃ a c, s.wrN n = (a, c) := ⟨_, _, rfl⟩
  rw [hac]
  have HAC := Lib.hid hac
  clear hac
  cases hcl : s.closed
  · have HCL := Lib.hid hcl
    have HW := Lib.hid (show ∀ W W', Below w.heap.size w W → OM W W' fb b (s.os.write dd) → SdM w W' fp r (s.wr dd) from fun W W' hb hm => by
      obtain ⟨fb', h1, h2⟩ := hm
      have hm2 : OM w W' fb b (s.os.write dd) := ⟨fb', h1, h2.first hb⟩
      have e2 : s.wr dd = { s with os := s.os.write dd } := by unfold SS.wr; rw [HCL.out]; rfl
      rw [e2]
      exact sdm_of (s' := { s with os := s.os.write dd }) H0.out HFP.out hm2 (Upd.refl _ _) (H0.out.later hm2) ⟨H0.out.ok.id, H0.out.ok.st, H0.out.ok.lim, H0.out.ok.rs⟩)
    obtain ⟨rm, hrm⟩ : ∃ rm, s.os.room = rm := ⟨_, rfl⟩
    have hrb : rm ≤ 2048 := by
      rw [← hrm]
      unfold OS.room
      split <;> omega
    have HA1 := Lib.hid (show 0 < n ∧ rm = 0 → a = 0 ∧ c = 26 from fun q => by
      have := HAC.out
      unfold SS.wrN at this
      rw [HCL.out, hrm, if_neg (by simp), if_pos q] at this
      cases this
      exact ⟨rfl, rfl⟩)
    have HA2 := Lib.hid (show ¬ (0 < n ∧ rm = 0) → a = min n rm ∧ c = 0 from fun q => by
      have := HAC.out
      unfold SS.wrN at this
      rw [HCL.out, hrm, if_neg (by simp), if_neg q] at this
      cases this
      exact ⟨rfl, rfl⟩)
    have HRM := Lib.hid hrm
    clear hrm hcl HAC
    go_enter Try.func16, Try.ntmps16
    go_wp2_with fail
    refine (sclosed_q r s fp _ (by exact H.out)).mono ?_
    rw [HCL.out]
    rintro e w1 ⟨rfl, q, rfl⟩
    by_cases hp : 0 < n
    · go_wp2_with fail
      refine (oroom_q b s.os fb _ (by exact (H0.out.buf.drewN q)) (by exact HY.out.2.2.1)).mono ?_
      rw [HRM.out]
      rintro e w1 ⟨rfl, q2, rfl⟩
      by_cases hz : rm = 0
      · subst hz
        obtain ⟨rfl, rfl⟩ := HA1.out ⟨hp, rfl⟩
        go_wp2_with fail
        go_ret2
        refine ⟨rfl, HW.out w _ (Below.refl _ _) ?_⟩
        rw [write_none HRM.out]
        exact (OM.refl H0.out.buf).later (below_drewN (Below.refl _ _) _)
      · obtain ⟨rfl, rfl⟩ := HA2.out (fun x => hz x.2)
        go_wp2_with fail
        refine (owrite_any b s.os fb (.slice od n capd) dd _ (by exact H0.out.buf.drewN (q + q2)) (by exact (HD.out.below (below_drewN (Below.refl _ _) (q + q2)))) (by exact HY.out.1) HY.out.2.1 HY.out.2.2.1 HY.out.2.2.2.1 HY.out.2.2.2.2).mono ?_
        rw [HRM.out, HN.out]
        rintro e w2 ⟨rfl, hm⟩
        have HM := Lib.hid (HW.out _ _ (below_drewN (Below.refl _ _) _) hm)
        clear hm
        go_wp2_with fail
        go_ret2
        exact ⟨rfl, HM.out⟩
    · obtain ⟨rfl, rfl⟩ := HA2.out (fun x => hp x.1)
      go_wp2_with fail
      refine (owrite_any b s.os fb (.slice od n capd) dd _ (by exact H0.out.buf.drewN q) (by exact (HD.out.below (below_drewN (Below.refl _ _) _))) (by exact HY.out.1) HY.out.2.1 HY.out.2.2.1 HY.out.2.2.2.1 HY.out.2.2.2.2).mono ?_
      rw [HRM.out, HN.out]
      rintro e w2 ⟨rfl, hm⟩
      have HM := Lib.hid (HW.out _ _ (below_drewN (Below.refl _ _) _) hm)
      clear hm
      go_wp2_with fail
      go_ret2
      exact ⟨rfl, HM.out⟩
  · obtain ⟨rfl, rfl⟩ : a = 0 ∧ c = 24 := by
      have := HAC.out
      unfold SS.wrN at this
      rw [hcl] at this
      cases this
      exact ⟨rfl, rfl⟩
    have e2 : s.wr dd = s := by unfold SS.wr; rw [hcl]; rfl
    rw [e2]
    go_enter Try.func16, Try.ntmps16
    go_wp2_with fail
    refine (sclosed_q r s fp _ (by exact H.out)).mono ?_
    rw [hcl]
    rintro e w1 ⟨rfl, q, rfl⟩
    go_wp2_with fail
    go_ret2
    exact ⟨rfl, SdM.drewN (SdM.refl H.out) q⟩
end Go.Proofs.Ytncfbaabhceeoaa
