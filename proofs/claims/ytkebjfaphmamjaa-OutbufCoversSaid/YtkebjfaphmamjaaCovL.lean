/- DERIVED. Plain: what OutbufCovers asks: pieces that go, are lost, are acknowledged. -/
import Derived.Test.YtkebjfaphmamjaaOutAckG
import Derived.Test.YtkebjfaphmamjaaRngLaw5
namespace Go.Proofs.Ytkebjfaphmamjaa
open Go.RowKit

theorem mem_of {xs : List Rg} {r : Rg} (h : r ∈ xs) {j : Nat} (h1 : r.1 ≤ j) (h2 : j < r.2) : mem xs j = true := by
  unfold mem
  rw [List.any_eq_true]
  exact ⟨r, h, by simp [hasP, h1, h2]⟩
theorem len_from : ∀ (xs : List Rg) (a m : Nat), Norm xs → (∀ r ∈ xs, a ≤ r.1) → (∀ r ∈ xs, r.2 ≤ m) → xs.length ≤ m - a
  | [], _, _, _, _, _ => by simp
  | r :: xs, a, m, hn, h1, h2 => by
    obtain ⟨⟨h3, h4⟩, h5⟩ := hn.head
    have ha := h1 r (List.mem_cons_self ..)
    have hm := h2 r (List.mem_cons_self ..)
    have := len_from xs r.2 m hn.tail (fun x hx => by have := h5 x hx; omega) (fun x hx => h2 x (List.mem_cons_of_mem _ hx))
    rw [List.length_cons]
    omega
theorem mem_top {xs : List Rg} {m : Nat} (hn : Norm xs) (h : ∀ j, mem xs j = true → j < m) : ∀ r ∈ xs, r.2 ≤ m := by
  intro r hr
  have h1 := hn.1 r hr
  have := h (r.2 - 1) (mem_of hr (by omega) (by omega))
  omega
theorem len_mem {xs : List Rg} {m : Nat} (hn : Norm xs) (h : ∀ j, mem xs j = true → j < m) : xs.length ≤ m := by
  have := len_from xs 0 m hn (fun _ _ => Nat.zero_le _) (mem_top hn h)
  omega
theorem at_facts {xs : List Rg} {n : Nat} (hn : Norm xs) : atOf xs n ≤ n ∧ (∀ k, k < atOf xs n → mem xs k = true) ∧ (atOf xs n < n → mem xs (atOf xs n) = false) := by
  obtain ⟨i1, i2, i3, i4⟩ := gapF_facts n xs 0 hn
  obtain ⟨_, _, j3⟩ := gapF_is n xs 0 hn
  unfold atOf gapL
  by_cases h : (gapF xs 0 n).2 ≤ (gapF xs 0 n).1
  · rw [if_pos h]
    have h2 := j3.1 h
    refine ⟨Nat.le_refl _, fun k hk => ?_, fun hk => absurd hk (Nat.lt_irrefl _)⟩
    have hk : k < n := hk
    exact i3 k (Nat.zero_le _) (by omega)
  · rw [if_neg h]
    have h' : (gapF xs 0 n).1 < (gapF xs 0 n).2 := by omega
    refine ⟨?_, fun k hk => i3 k (Nat.zero_le _) hk, fun _ => i4 _ (Nat.le_refl _) h'⟩
    show (gapF xs 0 n).1 ≤ n
    omega
theorem at_mono {xs zs : List Rg} {n : Nat} (hx : Norm xs) (hz : Norm zs) (h : ∀ k, mem xs k = true → mem zs k = true) : atOf xs n ≤ atOf zs n := by
  obtain ⟨a1, a2, a3⟩ := at_facts (n := n) hx
  obtain ⟨b1, b2, b3⟩ := at_facts (n := n) hz
  rcases Nat.lt_or_ge (atOf zs n) (atOf xs n) with h1 | h1
  · have h2 := h _ (a2 _ h1)
    have h3 := b3 (by omega)
    rw [h2] at h3
    cases h3
  · exact h1
theorem at_all {xs : List Rg} {n : Nat} (hx : Norm xs) (h : ∀ k, k < n → mem xs k = true) : atOf xs n = n := by
  obtain ⟨a1, a2, a3⟩ := at_facts (n := n) hx
  rcases Nat.lt_or_ge (atOf xs n) n with h1 | h1
  · have h2 := h _ h1
    rw [a3 h1] at h2
    cases h2
  · omega
set_option maxRecDepth 100000 in
theorem addL_facts {xs : List Rg} {f t : Nat} (hn : Norm xs) (hft : f < t) (ht : t ≤ 1000000) (hl : xs.length ≤ 90000) :
    Norm (addL many xs f t) ∧ (addL many xs f t).length ≤ xs.length + 1 ∧ ∀ j, mem (addL many xs f t) j = (mem xs j || decide (f ≤ j ∧ j < t)) := by
  have e : addL many xs f t = addN xs (f, t) := by
    unfold addL
    rw [addRaw_is hft xs hn]
    exact trim_all (by have := addN_len xs (f, t); unfold many; omega)
  rw [e]
  refine ⟨addN_norm xs _ hft (by omega) hn, addN_len xs _, fun j => ?_⟩
  show (addN xs (f, t)).any (hasP j) = _
  rw [any_addN j xs _ hft hn, Bool.or_comm]
  have e2 : hasP j (f, t) = decide (f ≤ j ∧ j < t) := by simp [hasP]
  rw [e2]
  rfl
theorem cutRaw_facts {xs : List Rg} {f t : Nat} (hn : Norm xs) (hft : f ≤ t) : ∀ j, mem (cutRaw f t xs) j = (mem xs j && !decide (f ≤ j ∧ j < t)) := by
  intro j
  rcases Nat.lt_or_ge f t with h | h
  · show (cutRaw f t xs).any (hasP j) = _
    rw [any_cut j f t h xs hn]
    simp [hasP, mem]
  · rw [cut_none h]
    have : ¬ (f ≤ j ∧ j < t) := by omega
    simp [this]
/-- What becomes of what is lost, number by number. -/
theorem lostY_facts {s : OS} {y0 : List Rg} (hx : Norm s.xs) (hy : Norm y0) : ∀ k, k ≤ s.xs.length → Norm (lostY s y0 k) ∧ ∀ j, mem (lostY s y0 k) j = (mem y0 j && !mem (s.xs.take k) j) := by
  intro k
  induction k with
  | zero => intro _; exact ⟨hy, fun j => by simp [lostY, mem]⟩
  | succ k ih =>
    intro hk
    obtain ⟨h1, h2⟩ := ih (by omega)
    obtain ⟨r, hr⟩ : ∃ r, s.xs[k]? = some r := ⟨_, List.getElem?_eq_getElem (by omega)⟩
    have hrb := hx.1 r (List.mem_of_getElem? hr)
    rw [lostY_succ hr]
    refine ⟨cut_norm _ _ _ h1, fun j => ?_⟩
    rw [cutRaw_facts h1 (by omega), h2]
    have e : mem (s.xs.take (k + 1)) j = (mem (s.xs.take k) j || hasP j r) := take_any hr
    rw [e]
    have e2 : hasP j r = decide (r.1 ≤ j ∧ j < r.2) := by simp [hasP]
    rw [e2]
    cases mem y0 j <;> cases mem (s.xs.take k) j <;> simp

/-- Between two rounds. -/
structure CI (s : OS) (n : Nat) (wt : List Bool) (e : Bool) : Prop where
  ok : s.Ok
  len : s.B.length = n
  n200 : n ≤ 200
  fi : s.fi = true
  wl : wt.length = n
  wv : ∀ j, j < n → wt[j]? = some (mem s.xs j)
  xb : ∀ j, mem s.xs j = true → j < s.sent
  yb : ∀ j, mem s.ys j = true → j < s.sent ∧ mem s.xs j = false
  cov : ∀ j, j < s.sent → mem s.xs j = true ∨ mem s.ys j = true
  base : s.base = atOf s.xs n
  ea : s.ea = e
  es : s.es = true → s.ea = true ∨ s.el = true
/-- A piece, or the end, is under way. -/
structure CM (s : OS) (n : Nat) (wt : List Bool) (e : Bool) (f t : Nat) (fin : Bool) : Prop where
  ok : s.Ok
  len : s.B.length = n
  n200 : n ≤ 200
  fi : s.fi = true
  wl : wt.length = n
  wv : ∀ j, j < n → wt[j]? = some (mem s.xs j)
  xb : ∀ j, mem s.xs j = true → j < s.sent
  yb : ∀ j, mem s.ys j = true → j < s.sent ∧ mem s.xs j = false
  cov : ∀ j, j < s.sent → (f ≤ j ∧ j < t) ∨ mem s.xs j = true ∨ mem s.ys j = true
  base : s.base = atOf s.xs n
  ea : s.ea = e
  es : s.es = true → s.ea = true ∨ s.el = true ∨ fin = true
  ft : f ≤ t
  ts : t ≤ s.sent
  pc : ∀ j, f ≤ j → j < t → mem s.xs j = false ∧ mem s.ys j = false
  fn : fin = true → s.es = true ∧ s.ea = false ∧ t = n
  go : f < t ∨ fin = true
theorem CI.ny {s : OS} {n : Nat} {wt : List Bool} {e : Bool} (h : CI s n wt e) : s.ys.length ≤ 200 := by
  have := len_mem h.ok.ny (fun j hj => (h.yb j hj).1)
  have := h.ok.sent
  have := h.len
  have := h.n200
  omega
theorem CI.base_le {s : OS} {n : Nat} {wt : List Bool} {e : Bool} (h : CI s n wt e) {f : Nat} (hf : mem s.xs f = false) : s.base ≤ f := by
  obtain ⟨a1, a2, a3⟩ := at_facts (n := n) h.ok.nx
  rw [h.base]
  rcases Nat.lt_or_ge f (atOf s.xs n) with h1 | h1
  · rw [a2 f h1] at hf
    cases hf
  · exact h1
theorem ende_of {s : OS} (hfi : s.fi = true) (hes : s.es = true → s.ea = true ∨ s.el = true) : s.ende = !s.ea := by
  unfold OS.ende
  rw [hfi]
  cases h1 : s.ea <;> cases h2 : s.es <;> cases h3 : s.el <;> simp
  have := hes h2
  rw [h1, h3] at this
  simp at this
theorem CI.part {s : OS} {n : Nat} {wt : List Bool} {e : Bool} (h : CI s n wt e) :
    (∃ r rest, s.ys = r :: rest ∧ s.part 1000 = (r.1, r.2) ∧ r.1 < r.2 ∧ r.2 ≤ s.sent) ∨ (s.ys = [] ∧ s.part 1000 = (s.sent, n)) := by
  have hl := h.len
  have hs := h.ok.sent
  have hn := h.n200
  cases hy : s.ys with
  | nil =>
    refine .inr ⟨rfl, ?_⟩
    unfold OS.part
    rw [hy]
    show (s.sent, max s.sent (min 1000 s.B.length)) = _
    rw [show max s.sent (min 1000 s.B.length) = n by omega]
  | cons r rest =>
    refine .inl ⟨r, rest, rfl, ?_, ?_, ?_⟩
    · unfold OS.part
      rw [hy]
    · exact (h.ok.ny.1 r (by rw [hy]; exact List.mem_cons_self ..)).1
    · exact mem_top h.ok.ny (fun j hj => (h.yb j hj).1) r (by rw [hy]; exact List.mem_cons_self ..)
theorem bool_not {b : Bool} (h : ¬ b = true) : b = false := by cases b <;> simp_all
theorem CI.goes {s : OS} {n : Nat} {wt : List Bool} {e : Bool} (h : CI s n wt e) {f t : Nat} (hft : f < t) (htn : t ≤ n) (hfs : f ≤ s.sent) (hx : ∀ j, f ≤ j → j < t → mem s.xs j = false) (hy : ∀ j, f ≤ j → j < t → j < s.sent → mem s.ys j = true) :
    CM (s.went f t) n wt e f t (decide (t = s.B.length) && s.ende) := by
  have hc := cutRaw_facts (f := f) (t := t) h.ok.ny (by omega)
  have hcn := cut_norm f t _ h.ok.ny
  have hmx : (s.went f t).sent = max s.sent t := rfl
  have hexs : (s.went f t).xs = s.xs := rfl
  have heys : (s.went f t).ys = cutRaw f t s.ys := rfl
  have hlen := h.len
  have hos := h.ok.sent
  have hyb : ∀ j, mem (s.went f t).ys j = true → j < s.sent ∧ mem s.xs j = false := by
    intro j hj
    rw [heys, hc] at hj
    simp only [Bool.and_eq_true] at hj
    exact h.yb j hj.1
  have hyl := len_mem (xs := cutRaw f t s.ys) hcn (m := s.sent) (fun j hj => (hyb j hj).1)
  have hn := h.n200
  have hende := ende_of h.fi h.es
  refine { ok := ⟨h.ok.len, h.ok.base, by rw [hmx]; show _ ≤ s.B.length; omega, h.ok.nx, hcn, h.ok.lx, by show (cutRaw f t s.ys).length ≤ _; omega, h.ok.bys⟩, len := h.len, n200 := h.n200, fi := h.fi, wl := h.wl, wv := h.wv, xb := ?_, yb := ?_, cov := ?_, base := h.base, ea := h.ea, es := ?_, ft := by omega, ts := by rw [hmx]; omega, pc := ?_, fn := ?_, go := .inl hft }
  · intro j hj
    have := h.xb j hj
    rw [hmx]
    omega
  · intro j hj
    obtain ⟨h1, h2⟩ := hyb j hj
    rw [hmx]
    exact ⟨by omega, h2⟩
  · intro j hj
    rw [hmx] at hj
    by_cases h1 : f ≤ j ∧ j < t
    · exact .inl h1
    · have h2 : j < s.sent := by omega
      rcases h.cov j h2 with h3 | h3
      · exact .inr (.inl h3)
      · refine .inr (.inr ?_)
        rw [heys, hc, h3]
        simp [h1]
  · intro hes
    show s.ea = true ∨ (s.el && !(decide (t = s.B.length) && s.ende)) = true ∨ _
    have hes2 : (s.es || (decide (t = s.B.length) && s.ende)) = true := hes
    cases hq : (decide (t = s.B.length) && s.ende)
    · rw [hq] at hes2
      rcases h.es (by simpa using hes2) with h1 | h1
      · exact .inl h1
      · exact .inr (.inl (by simp [h1]))
    · exact .inr (.inr rfl)
  · intro j h1 h2
    refine ⟨hx j h1 h2, ?_⟩
    rw [heys, hc]
    simp [h1, h2]
  · intro hq
    refine ⟨?_, ?_, ?_⟩
    · show (s.es || (decide (t = s.B.length) && s.ende)) = true
      rw [hq]
      simp
    · show s.ea = false
      simp only [Bool.and_eq_true] at hq
      rw [hende] at hq
      simpa using hq.2
    · simp only [Bool.and_eq_true, decide_eq_true_eq] at hq
      omega
/-- What Next does between two rounds. -/
theorem CI.next {s : OS} {n : Nat} {wt : List Bool} {e : Bool} (h : CI s n wt e) {k : Nat} (hk : 1 ≤ k) :
    (∃ f t0 t, s.part 1000 = (f, t0) ∧ s.base ≤ f ∧ f < t ∧ min t0 (f + k) = t ∧ t ≤ n ∧ t0 ≤ 1099511627776 ∧ (cutRaw f t s.ys).length ≤ 100000 ∧ CM (s.went f t) n wt e f t (decide (t = s.B.length) && s.ende)) ∨
    (s.ys = [] ∧ s.sent = n ∧ s.ende = true ∧ CM { s with es := true, el := false } n wt e n n true) ∨
    (s.ys = [] ∧ s.sent = n ∧ s.ende = false) := by
  have hl := h.len
  have hs := h.ok.sent
  have hn := h.n200
  have hyl := h.ny
  have hcl : ∀ f t, (cutRaw f t s.ys).length ≤ 100000 := fun f t => by have := cut_le f t _ h.ok.ny; omega
  rcases h.part with ⟨r, rest, hy, hp, h1, h2⟩ | ⟨hy, hp⟩
  · left
    have hr : r ∈ s.ys := by rw [hy]; exact List.mem_cons_self ..
    refine ⟨r.1, r.2, min r.2 (r.1 + k), hp, h.base_le (h.yb r.1 (mem_of hr (Nat.le_refl _) h1)).2, by omega, rfl, by omega, by omega, hcl _ _, ?_⟩
    exact h.goes (by omega) (by omega) (by omega) (fun j q1 q2 => (h.yb j (mem_of hr q1 (by omega))).2) (fun j q1 q2 _ => mem_of hr q1 (by omega))
  · by_cases hsn : s.sent < n
    · left
      refine ⟨s.sent, n, min n (s.sent + k), hp, h.base_le (bool_not (fun q => by have := h.xb _ q; omega)), by omega, rfl, by omega, by omega, hcl _ _, ?_⟩
      exact h.goes (by omega) (by omega) (Nat.le_refl _) (fun j q1 q2 => bool_not (fun q => by have := h.xb _ q; omega)) (fun j q1 q2 q3 => by omega)
    · have hsn : s.sent = n := by omega
      right
      have hende := ende_of h.fi h.es
      cases he : s.ende with
      | false => exact .inr ⟨hy, hsn, rfl⟩
      | true =>
        refine .inl ⟨hy, hsn, rfl, ?_⟩
        exact { ok := ⟨h.ok.len, h.ok.base, h.ok.sent, h.ok.nx, h.ok.ny, h.ok.lx, h.ok.ly, h.ok.bys⟩, len := h.len, n200 := h.n200, fi := h.fi, wl := h.wl, wv := h.wv, xb := h.xb, yb := h.yb, cov := fun j hj => .inr (h.cov j hj), base := h.base, ea := h.ea, es := fun _ => .inr (.inr rfl), ft := Nat.le_refl _, ts := by show n ≤ s.sent; omega, pc := fun j q1 q2 => by omega, fn := fun _ => ⟨rfl, by show s.ea = false; rw [he] at hende; cases hq : s.ea <;> simp_all, rfl⟩, go := .inr rfl }
theorem CM.kn {s : OS} {n : Nat} {wt : List Bool} {e : Bool} {f t : Nat} {fin : Bool} (h : CM s n wt e f t fin) : s.kn f ((t - f : Nat) : Int) = (f, t) := by
  have := h.ft
  have := h.ts
  unfold OS.kn
  simp only [Prod.mk.injEq, Int.toNat_natCast]
  omega
theorem CM.xl {s : OS} {n : Nat} {wt : List Bool} {e : Bool} {f t : Nat} {fin : Bool} (h : CM s n wt e f t fin) : s.xs.length ≤ 200 ∧ s.ys.length ≤ 200 := by
  have h1 := len_mem h.ok.nx h.xb
  have h2 := len_mem h.ok.ny (fun j hj => (h.yb j hj).1)
  have := h.ok.sent
  have := h.len
  have := h.n200
  omega
/-- It is lost. -/
theorem CM.lost {s : OS} {n : Nat} {wt : List Bool} {e : Bool} {f t : Nat} {fin : Bool} (h : CM s n wt e f t fin) :
    Norm (s.lostB (s.kn f ((t - f : Nat) : Int))) ∧ (s.lostB (s.kn f ((t - f : Nat) : Int))).length + s.xs.length ≤ 100000 ∧
    CI { s with ys := lostY s (s.lostB (s.kn f ((t - f : Nat) : Int))) s.xs.length, el := s.el || (fin && s.es) } n wt e := by
  rw [h.kn]
  obtain ⟨l1, l2⟩ := h.xl
  have hs := h.ok.sent
  have hl := h.len
  have hn := h.n200
  have hft := h.ft
  have hts := h.ts
  obtain ⟨a1, a2, a3⟩ : Norm (s.lostB (f, t)) ∧ (s.lostB (f, t)).length ≤ s.ys.length + 1 ∧ ∀ j, mem (s.lostB (f, t)) j = (mem s.ys j || decide (f ≤ j ∧ j < t)) := by
    unfold OS.lostB
    by_cases q : f < t
    · rw [if_pos q]
      exact addL_facts h.ok.ny q (by omega) (by omega)
    · rw [if_neg q]
      refine ⟨h.ok.ny, by omega, fun j => ?_⟩
      have : ¬ (f ≤ j ∧ j < t) := by omega
      simp [this]
  obtain ⟨b1, b2⟩ := lostY_facts h.ok.nx a1 s.xs.length (Nat.le_refl _)
  rw [List.take_length] at b2
  have hmy : ∀ j, mem (lostY s (s.lostB (f, t)) s.xs.length) j = ((mem s.ys j || decide (f ≤ j ∧ j < t)) && !mem s.xs j) := fun j => by rw [b2, a3]
  have hyb : ∀ j, mem (lostY s (s.lostB (f, t)) s.xs.length) j = true → j < s.sent ∧ mem s.xs j = false := by
    intro j hj
    rw [hmy] at hj
    simp only [Bool.and_eq_true, Bool.or_eq_true, decide_eq_true_eq, Bool.not_eq_true'] at hj
    refine ⟨?_, hj.2⟩
    rcases hj.1 with h1 | h1
    · exact (h.yb j h1).1
    · omega
  have hyl := len_mem b1 (fun j hj => (hyb j hj).1)
  refine ⟨a1, by omega, { ok := ⟨h.ok.len, h.ok.base, h.ok.sent, h.ok.nx, b1, h.ok.lx, by show (lostY s (s.lostB (f, t)) s.xs.length).length ≤ _; omega, h.ok.bys⟩, len := h.len, n200 := h.n200, fi := h.fi, wl := h.wl, wv := h.wv, xb := h.xb, yb := hyb, cov := ?_, base := h.base, ea := h.ea, es := ?_ }⟩
  · intro j hj
    show mem s.xs j = true ∨ mem (lostY s (s.lostB (f, t)) s.xs.length) j = true
    rw [hmy]
    cases hq : mem s.xs j
    · right
      rcases h.cov j hj with h1 | h1 | h1
      · simp [h1]
      · rw [hq] at h1
        cases h1
      · simp [h1]
    · exact .inl rfl
  · intro hes
    have hes : s.es = true := hes
    show s.ea = true ∨ (s.el || (fin && s.es)) = true
    rcases h.es hes with h1 | h1 | h1
    · exact .inl h1
    · exact .inr (by simp [h1])
    · exact .inr (by simp [h1, hes])
/-- The flags of what went, m of them from f on. -/
def setT (wt : List Bool) (f : Nat) : Nat → List Bool
  | 0 => wt
  | m + 1 => (setT wt f m).set (f + m) true
theorem setT_len (wt : List Bool) (f : Nat) : ∀ m, (setT wt f m).length = wt.length
  | 0 => rfl
  | m + 1 => by rw [setT, List.length_set, setT_len wt f m]
theorem setT_at (wt : List Bool) (f : Nat) : ∀ m j, j < wt.length → (setT wt f m)[j]? = if f ≤ j ∧ j < f + m then some true else wt[j]?
  | 0, j, _ => by rw [if_neg (by omega)]; rfl
  | m + 1, j, hj => by
    rw [setT, List.getElem?_set]
    by_cases h : f + m = j
    · rw [if_pos h, if_pos (by rw [setT_len]; omega), if_pos (by omega)]
    · rw [if_neg h, setT_at wt f m j hj]
      by_cases h2 : f ≤ j ∧ j < f + m
      · rw [if_pos h2, if_pos (by omega)]
      · rw [if_neg h2, if_neg (by omega)]
/-- How much is left to be acknowledged. -/
def lft (s : OS) (n : Nat) : Nat := n - cnt (mem s.xs) n + if s.ea then 0 else 1
theorem cnt_le (p : Nat → Bool) : ∀ n, cnt p n ≤ n
  | 0 => Nat.le_refl _
  | n + 1 => by have := cnt_le p n; simp only [cnt]; split <;> omega
theorem cnt_mono {p q : Nat → Bool} (h : ∀ k, p k = true → q k = true) : ∀ n, cnt p n ≤ cnt q n
  | 0 => Nat.le_refl _
  | n + 1 => by
    have := cnt_mono h n
    simp only [cnt]
    cases hp : p n
    · simp; omega
    · rw [h n hp]; simp; omega
theorem cnt_more {p q : Nat → Bool} (h : ∀ k, p k = true → q k = true) {f : Nat} (h1 : p f = false) (h2 : q f = true) : ∀ n, f < n → cnt p n + 1 ≤ cnt q n
  | 0, hf => by omega
  | n + 1, hf => by
    simp only [cnt]
    by_cases hfn : f = n
    · subst hfn
      have := cnt_mono h f
      rw [h1, h2]
      simp
      omega
    · have := cnt_more h h1 h2 n (by omega)
      cases hp : p n
      · simp; omega
      · rw [h n hp]; simp; omega
/-- It is acknowledged. -/
theorem CM.acked {s : OS} {n : Nat} {wt : List Bool} {e : Bool} {f t : Nat} {fin : Bool} (h : CM s n wt e f t fin) :
    ∃ zs yz at_, s.ackX (s.kn f ((t - f : Nat) : Int)) = zs ∧ Norm zs ∧ zs.length ≤ 100000 ∧ cutRaw (s.kn f ((t - f : Nat) : Int)).1 (s.kn f ((t - f : Nat) : Int)).2 s.ys = yz ∧ yz.length ≤ 100000 ∧ atOf zs s.B.length = at_ ∧ s.base ≤ at_ ∧ at_ ≤ s.B.length ∧
      CI (s.ackG zs yz at_ fin) n (setT wt f (t - f)) (e || fin) ∧ lft (s.ackG zs yz at_ fin) n + 1 ≤ lft s n := by
  rw [h.kn]
  obtain ⟨l1, l2⟩ := h.xl
  have hs := h.ok.sent
  have hl := h.len
  have hn := h.n200
  have hft := h.ft
  have hts := h.ts
  obtain ⟨a1, a2, a3⟩ : Norm (s.ackX (f, t)) ∧ (s.ackX (f, t)).length ≤ s.xs.length + 1 ∧ ∀ j, mem (s.ackX (f, t)) j = (mem s.xs j || decide (f ≤ j ∧ j < t)) := by
    unfold OS.ackX
    by_cases q : f < t
    · rw [if_pos q]
      exact addL_facts h.ok.nx q (by omega) (by omega)
    · rw [if_neg q]
      refine ⟨h.ok.nx, by omega, fun j => ?_⟩
      have : ¬ (f ≤ j ∧ j < t) := by omega
      simp [this]
  obtain ⟨zs, hz⟩ : ∃ zs, s.ackX (f, t) = zs := ⟨_, rfl⟩
  rw [hz] at a1 a2 a3
  have hcn := cut_norm f t _ h.ok.ny
  have hc := cutRaw_facts (f := f) (t := t) h.ok.ny hft
  have hcl := cut_le f t _ h.ok.ny
  have hup : ∀ k, mem s.xs k = true → mem zs k = true := fun k hk => by rw [a3, hk]; rfl
  obtain ⟨q1, q2, q3⟩ := at_facts (n := n) a1
  have hee : ∀ j, mem zs j = true → j < s.sent := by
    intro j hj
    rw [a3] at hj
    simp only [Bool.or_eq_true, decide_eq_true_eq] at hj
    rcases hj with h1 | h1
    · exact h.xb j h1
    · omega
  refine ⟨zs, cutRaw f t s.ys, atOf zs n, hz, a1, by omega, rfl, by omega, by rw [hl], by rw [h.base]; exact at_mono h.ok.nx a1 hup, by omega, ?_, ?_⟩
  · refine { ok := ⟨h.ok.len, by show atOf zs n ≤ s.B.length; omega, h.ok.sent, a1, hcn, by show zs.length ≤ _; omega, by show (cutRaw f t s.ys).length ≤ _; omega, h.ok.bys⟩, len := h.len, n200 := h.n200, fi := h.fi, wl := by rw [setT_len]; exact h.wl, wv := ?_, xb := hee, yb := ?_, cov := ?_, base := rfl, ea := ?_, es := ?_ }
    · intro j hj
      rw [setT_at wt f _ j (by rw [h.wl]; exact hj), show f + (t - f) = t by omega]
      show _ = some (mem zs j)
      rw [a3, h.wv j hj]
      by_cases q : f ≤ j ∧ j < t
      · rw [if_pos q]
        simp [q]
      · rw [if_neg q]
        simp [q]
    · intro j hj
      have hj : mem (cutRaw f t s.ys) j = true := hj
      rw [hc] at hj
      simp only [Bool.and_eq_true, Bool.not_eq_true', decide_eq_false_iff_not] at hj
      obtain ⟨h1, h2⟩ := h.yb j hj.1
      refine ⟨h1, ?_⟩
      show mem zs j = false
      rw [a3, h2]
      simp [hj.2]
    · intro j hj
      show mem zs j = true ∨ mem (cutRaw f t s.ys) j = true
      rw [a3, hc]
      rcases h.cov j hj with h1 | h1 | h1
      · left; simp [h1]
      · left; simp [h1]
      · by_cases q : f ≤ j ∧ j < t
        · left; simp [q]
        · right; simp [q, h1]
    · show (s.ea || (fin && s.es)) = (e || fin)
      rw [h.ea]
      cases hf : fin
      · simp
      · simp [(h.fn hf).1]
    · intro hes
      have hes : s.es = true := hes
      show (s.ea || (fin && s.es)) = true ∨ s.el = true
      rcases h.es hes with h1 | h1 | h1
      · left; simp [h1]
      · right; exact h1
      · left; simp [h1, hes]
  · show n - cnt (mem zs) n + (if (s.ea || (fin && s.es)) then 0 else 1) + 1 ≤ n - cnt (mem s.xs) n + if s.ea then 0 else 1
    have c1 := cnt_mono hup n
    have c2 := cnt_le (mem zs) n
    rcases h.go with hg | hg
    · have c3 := cnt_more hup (h.pc f (Nat.le_refl _) hg).1 (show mem zs f = true by rw [a3]; simp [hg]) n (by omega)
      cases hq : s.ea
      · simp
        split <;> omega
      · simp
        omega
    · obtain ⟨e1, e2, _⟩ := h.fn hg
      rw [e1, e2, hg]
      simp
      omega
/-- At the end. -/
theorem CI.done {s : OS} {n : Nat} {wt : List Bool} {e : Bool} (h : CI s n wt e) (hy : s.ys = []) (hsn : s.sent = n) (he : s.ende = false) :
    e = true ∧ (∀ j, j < n → wt[j]? = some true) ∧ (s.fi && s.ea && decide (s.base = s.B.length)) = true ∧ s.waits 1000 = false := by
  have hl := h.len
  have hn := h.n200
  have hall : ∀ j, j < n → mem s.xs j = true := by
    intro j hj
    rcases h.cov j (by omega) with h1 | h1
    · exact h1
    · rw [hy] at h1
      simp [mem] at h1
  have hende := ende_of h.fi h.es
  rw [he] at hende
  have hea : s.ea = true := by
    cases hq : s.ea with
    | true => rfl
    | false =>
      rw [hq] at hende
      cases hende
  refine ⟨by rw [← h.ea]; exact hea, fun j hj => by rw [h.wv j hj, hall j hj], ?_, ?_⟩
  · rw [h.fi, hea, h.base, at_all h.ok.nx hall, hl]
    simp
  · unfold OS.waits
    rw [he]
    unfold OS.part
    rw [hy]
    show (decide (s.sent < max s.sent (min 1000 s.B.length)) || _) = false
    have : ¬ s.sent < max s.sent (min 1000 s.B.length) := by omega
    rw [decide_eq_false this, Bool.and_false]
    rfl
theorem CI.lft_le {s : OS} {n : Nat} {wt : List Bool} {e : Bool} (h : CI s n wt e) : lft s n ≤ 201 := by
  have := h.n200
  unfold lft
  split <;> omega
/-- At the start: all is written, and Finish was said. -/
theorem CI.start {A : List Nat} {n : Nat} (h : A.length = n) (hn : n ≤ 200) (hb : Bys A) : CI { OS.zero with B := A, fi := true } n (List.replicate n false) false := by
  have h0 : (OS.zero : OS).xs = [] := rfl
  refine { ok := ⟨by show A.length ≤ _; omega, by show 0 ≤ _; omega, by show 0 ≤ _; omega, ⟨by simp [OS.zero], by simp [OS.zero]⟩, ⟨by simp [OS.zero], by simp [OS.zero]⟩, by simp [OS.zero], by simp [OS.zero], hb⟩, len := h, n200 := hn, fi := rfl, wl := List.length_replicate, wv := ?_, xb := ?_, yb := ?_, cov := ?_, base := ?_, ea := rfl, es := ?_ }
  · intro j hj
    rw [List.getElem?_replicate, if_pos hj]
    rfl
  · intro j hj
    simp [OS.zero, mem] at hj
  · intro j hj
    simp [OS.zero, mem] at hj
  · intro j hj
    simp [OS.zero] at hj
  · show 0 = atOf [] n
    unfold atOf gapL gapF
    by_cases q : n = 0
    · subst q
      rfl
    · simp [q]
  · intro hj
    simp [OS.zero] at hj
end Go.Proofs.Ytkebjfaphmamjaa
