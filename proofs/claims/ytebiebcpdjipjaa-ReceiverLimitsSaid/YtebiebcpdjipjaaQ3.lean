/- DERIVED. Walk of bits' Size and PutVar: a number in 1, 2, 4, 8 bytes. -/
import Derived.StillTailTactics
import Derived.Test.YtebiebcpdjipjaaQ1
import Derived.Test.YtebiebcpdjipjaaQ2
namespace Go.Proofs.Ytebiebcpdjipjaa
open Go.RowKit

def vsize (n : Nat) : Nat := if n < 64 then 1 else if n < 16384 then 2 else if n < 1073741824 then 4 else if n ≤ 4611686018427387903 then 8 else 0
def rawN (n k : Nat) : List Nat := (List.range k).map (fun j => n / 2 ^ (8 * (k - 1 - j)) % 256)
def vlog (k : Nat) : Nat := if k = 1 then 0 else if k = 2 then 1 else if k = 4 then 2 else 3
/-- The first byte has so much more. -/
def bump (a : Nat) : List Nat → List Nat
  | [] => []
  | b :: l => (b + 64 * a) :: l
def varB (n : Nat) : List Nat := bump (vlog (vsize n)) (rawN n (vsize n))
theorem vsize_le (n : Nat) : vsize n ≤ 8 := by
  unfold vsize
  repeat' split
  all_goals omega
theorem rawN_len (n k : Nat) : (rawN n k).length = k := by simp [rawN]
theorem bump_len (a : Nat) (l : List Nat) : (bump a l).length = l.length := by cases l <;> rfl
theorem varB_len (n : Nat) : (varB n).length = vsize n := by rw [varB, bump_len, rawN_len]
set_option maxRecDepth 100000 in
theorem vsize_q (n : Nat) (w : World) (hn : n < 18446744073709551616) : Calls Try.prog 98 #[.int .u64 n] w fun e w' => e = .returned (.int .i64 (vsize n)) ∧ w' = w := by
  obtain ⟨z, hz⟩ : ∃ z : Int, (n : Int) = z := ⟨_, rfl⟩
  obtain ⟨k, hk⟩ : ∃ k, vsize n = k := ⟨_, rfl⟩
  have hk2 : (z < 64 ∧ k = 1) ∨ (¬ z < 64 ∧ z < 16384 ∧ k = 2) ∨ (¬ z < 64 ∧ ¬ z < 16384 ∧ z < 1073741824 ∧ k = 4) ∨ (¬ z < 64 ∧ ¬ z < 16384 ∧ ¬ z < 1073741824 ∧ z ≤ 4611686018427387903 ∧ k = 8) ∨ (¬ z < 64 ∧ ¬ z < 16384 ∧ ¬ z < 1073741824 ∧ ¬ z ≤ 4611686018427387903 ∧ k = 0) := by
    unfold vsize at hk
    subst hz hk
    repeat' split
    all_goals omega
  rw [hz, hk]
  clear hz hk hn
  rcases hk2 with ⟨h1, rfl⟩ | ⟨h1, h2, rfl⟩ | ⟨h1, h2, h3, rfl⟩ | ⟨h1, h2, h3, h4, rfl⟩ | ⟨h1, h2, h3, h4, rfl⟩
  all_goals
    go_enter Try.func98, Try.ntmps98
    go_wp2_with fail
    go_ret
    exact ⟨rfl, rfl⟩
theorem vsize_first {n m : Nat} (h : vsize n = m) (h0 : ¬ m = 0) : (m = 1 ∨ m = 2 ∨ m = 4 ∨ m = 8) ∧ ∀ x, (rawN n m)[0]? = some x → x < 64 := by
  have hq : (n < 64 ∧ m = 1) ∨ (n < 16384 ∧ m = 2) ∨ (n < 1073741824 ∧ m = 4) ∨ (n < 4611686018427387904 ∧ m = 8) := by
    unfold vsize at h
    split at h
    · exact .inl ⟨by assumption, h.symm⟩
    · split at h
      · exact .inr (.inl ⟨by assumption, h.symm⟩)
      · split at h
        · exact .inr (.inr (.inl ⟨by assumption, h.symm⟩))
        · split at h
          · exact .inr (.inr (.inr ⟨by omega, h.symm⟩))
          · exact absurd h.symm h0
  refine ⟨by omega, fun x hx => ?_⟩
  rcases hq with ⟨q, rfl⟩ | ⟨q, rfl⟩ | ⟨q, rfl⟩ | ⟨q, rfl⟩
  all_goals
    simp only [rawN, List.getElem?_map] at hx
    rw [List.getElem?_range (by omega)] at hx
    simp only [Option.map_some, Option.some.injEq] at hx
    simp only [Nat.sub_zero, Nat.reduceSub, Nat.reduceMul, Nat.reducePow] at hx
    omega
theorem vlog_pow {m a : Nat} (h : m = 1 ∨ m = 2 ∨ m = 4 ∨ m = 8) (ha : a ≤ vlog m) : a ≤ 3 ∧ ((a < vlog m ∧ a < 3 ∧ 2 ^ a < m ∧ 2 ^ (a + 1) = 2 ^ a * 2) ∨ (a = vlog m ∧ ¬ 2 ^ a < m)) := by
  have h3 : a ≤ 3 := by
    have h1 : vlog 1 = 0 ∧ vlog 2 = 1 ∧ vlog 4 = 2 ∧ vlog 8 = 3 := by decide
    rcases h with rfl | rfl | rfl | rfl <;> omega
  refine ⟨h3, ?_⟩
  rcases (by omega : a = 0 ∨ a = 1 ∨ a = 2 ∨ a = 3) with rfl | rfl | rfl | rfl
  all_goals
    rcases h with rfl | rfl | rfl | rfl
    all_goals
      revert ha
      decide
theorem take_snoc' {l : List Nat} {m x : Nat} (h : l[m]? = some x) : l.take (m + 1) = l.take m ++ [x] := by rw [List.take_add_one, h]; rfl
set_option maxRecDepth 100000 in
set_option maxHeartbeats 1000000 in
theorem putvar_any (n : Nat) (w : World) (hn : n < 18446744073709551616) : Calls Try.prog 94 #[.slice none 0 0, .int .u64 n] w
    fun e w' => ∃ v og, e = .returned (.tuple #[v, .bool (decide (0 < vsize n))]) ∧ SlG encB 5 w' v og (varB n) ∧ (∀ g, og = some g → w.heap.size ≤ g) ∧ Below w.heap.size w w' := by
  obtain ⟨i0, hi0, hz0, hz1, hz2'⟩ := info_parts infoB
  obtain ⟨k, hk, hk8⟩ : ∃ k, vsize n = k ∧ k ≤ 8 := ⟨_, rfl, vsize_le n⟩
  have HK := Lib.hid hk
  clear hk
  go_enter Try.func94, Try.ntmps94
  go_wp2_with fail
  refine (vsize_q n _ hn).mono ?_
  rintro e w1 ⟨rfl, rfl⟩
  rw [HK.out]
  by_cases hk0 : k = 0
  · subst hk0
    go_wp2_with fail
    go_ret2
    refine ⟨_, none, by rw [HK.out]; rfl, ?_, by simp, Below.refl _ _⟩
    have : varB n = [] := List.eq_nil_of_length_eq_zero (by rw [varB_len, HK.out])
    rw [this]
    exact SlG.nil _
  · have hk0b : ((k : Int) == 0) = false := by simp; omega
    go_wp2_with fail
    go_loopw [6, 9] (fun v i wr => ∃ m og, m ≤ k ∧ i = .int .i64 ((k : Int) - 1 - m) ∧ SlG encB 5 wr v og ((rawN n k).take m) ∧ (∀ g, og = some g → w1.heap.size ≤ g) ∧ Below w1.heap.size w1 wr) (fun _ i _ => (intOf i + 1).toNat)
    case atStart => exact ⟨0, none, by omega, by simp, SlG.nil _, by simp, Below.refl _ _⟩
    case round =>
      obtain ⟨m, og, hm, rfl, hs, hg, hb⟩ := hrel
      have HS := Lib.hid hs
      have HG := Lib.hid hg
      have HB := Lib.hid hb
      clear hs hg hb
      by_cases hlt : m < k
      · obtain ⟨j, hj⟩ : ∃ j : Nat, (k : Int) - 1 - m = (j : Int) := ⟨k - 1 - m, by omega⟩
        rw [hj]
        obtain ⟨x, hx, hx2⟩ : ∃ x : Nat, (n : Int) / 2 ^ (8 * j) % 256 = (x : Int) ∧ (rawN n k)[m]? = some x := by
          refine ⟨n / 2 ^ (8 * j) % 256, by simp, ?_⟩
          unfold rawN
          rw [List.getElem?_map, List.getElem?_range hlt, Option.map_some, show k - 1 - m = j by omega]
        have htl : ((rawN n k).take m).length = m := by rw [List.length_take, rawN_len]; omega
        go_wp2_with (refine wpList_pushN encB_len encB_one Try.underlying22 hi0 hz1 hz0 zeroB rfl (.tmp 26) (.tmp 32) rfl (by exact HS.out.alloc _) [x] (by exact Src.block (alloc_at _ _) rfl) rfl rfl rfl (by simp) (by rw [htl, hz2']; simp; omega) (by rw [htl]; simp; omega) ?_)
        intro W1 v1 og1 hs1 ho1 hu1
        have hb0 := HB.out.size
        have HN1 := Lib.hid (show SlG encB 5 W1 v1 og1 ((rawN n k).take (m + 1)) ∧ (∀ g, og1 = some g → w1.heap.size ≤ g) ∧ Below w1.heap.size w1 W1 from
          ⟨by rw [(take_snoc' hx2)]; exact hs1, og_new HG.out (by omega) ho1, Upd.belowOf (HB.out.alloc hb0 _) hu1 (fun g hg q => by have := HG.out g q; omega)⟩)
        clear hs1 ho1 hu1
        go_wp2
        go_roundw
        case rel => exact ⟨m + 1, og1, by omega, by go_num, HN1.out⟩
        case measure => (simp [intOf])
      · obtain rfl : m = k := by omega
        have hk4 := vsize_first HK.out hk0
        have hmi : (m : Int) - 1 - m = -1 := by omega
        rw [hmi]
        have HS0 := Lib.hid (show SlG encB 5 wr u6 og (bump 0 (rawN n m)) by
          have := HS.out
          rw [List.take_of_length_le (by rw [rawN_len]; omega)] at this
          cases h : rawN n m with
          | nil => rw [h] at this; exact this
          | cons a l => rw [h] at this; exact this)
        clear HS
        go_wp2_with fail
        go_loopw [10] (fun i w2 => ∃ a : Nat, a ≤ vlog m ∧ i = .int .i64 (2 ^ a : Nat) ∧ SlG encB 5 w2 u6 og (bump a (rawN n m)) ∧ Below w1.heap.size w1 w2) (fun i _ => m - (intOf i).toNat)
        case atStart => exact ⟨0, by omega, rfl, HS0.out, HB.out⟩
        case round =>
          obtain ⟨a, ha, rfl, hs, hb⟩ := hrel
          obtain ⟨h3, hz2⟩ := vlog_pow hk4.1 ha
          obtain ⟨z, hz, hz8, hz1'⟩ : ∃ z : Nat, 2 ^ a = z ∧ z ≤ 8 ∧ 1 ≤ z := ⟨_, rfl, Nat.pow_le_pow_right (by omega) h3, Nat.one_le_two_pow⟩
          rw [hz] at hz2 ⊢
          have HB2 := Lib.hid hb
          have HS2 := Lib.hid hs
          clear hs hb HS0
          rcases hz2 with ⟨h1, ha2, h2, h3⟩ | ⟨h1, h2⟩
          · obtain ⟨b, l, hbl⟩ : ∃ b l, rawN n m = b :: l := by
              cases h : rawN n m with
              | nil => have := rawN_len n m; rw [h] at this; simp at this; omega
              | cons b l => exact ⟨b, l, rfl⟩
            have hb64 : b < 64 := hk4.2 b (by rw [hbl]; rfl)
            obtain ⟨oa, cap, rfl, hc1, hc2⟩ := HS2.out.shape
            have hlen : (bump a (rawN n m)).length = m := by rw [bump_len, rawN_len]
            rw [hlen] at hc1
            have hse := HS2.out
            rw [hlen] at hse
            obtain ⟨g, rfl, rfl, hg1, hg2, hg3⟩ := hse.el1 (f := fun x : Nat => Value.int .u8 x) (fun _ => rfl) (i := 0) (a := b + 64 * a) (by rw [hbl]; rfl)
            obtain ⟨g', e1, _, hput⟩ := hse.put (f := fun x : Nat => Value.int .u8 x) (fun _ => rfl) (i := 0) (by omega) (b + 64 * (a + 1))
            cases e1
            rw [hbl, show (bump a (b :: l)).set 0 (b + 64 * (a + 1)) = bump (a + 1) (b :: l) from rfl, ← hbl] at hput
            obtain ⟨y, hy, hy2⟩ : ∃ y : Nat, ((b + 64 * a : Nat) : Int) = (y : Int) ∧ b + 64 * (a + 1) = y + 64 := ⟨_, rfl, by omega⟩
            have hy3 : y + 64 < 256 := by omega
            rw [hy] at hg2
            rw [hy2] at hput
            have HP := Lib.hid hput
            clear hput hse HS2
            rw [hlen]
            go_wp2_with fail
            refine ⟨⟨a + 1, by omega, by rw [h3]; go_num, HP.out, HB2.out.setCell (HG.out g rfl) _⟩, ?_⟩
            show m - ((z : Int) * 2).toNat < m - (z : Int).toNat
            omega
          · go_wp2_with fail
            go_ret2
            refine ⟨_, og, by rw [HK.out, decide_eq_true (by omega : 0 < m)]; rfl, ?_, HG.out, HB2.out⟩
            rw [varB, HK.out, ← h1]
            exact HS2.out
end Go.Proofs.Ytebiebcpdjipjaa

/- DERIVED. Plain: lists of ranges: what each call makes of them. -/
namespace Go.Proofs.Ytebiebcpdjipjaa
open Go.RowKit

def hasP (n : Nat) (r : Rg) : Bool := decide (r.1 ≤ n) && decide (n < r.2)
def meetP (lo hi : Nat) (r : Rg) : Bool := decide (r.1 < hi) && decide (lo < r.2)
theorem take_any {p : Rg → Bool} {xs : List Rg} {k : Nat} {r : Rg} (h : xs[k]? = some r) : (xs.take (k + 1)).any p = ((xs.take k).any p || p r) := by
  rw [List.take_add_one, h]
  simp
def trimL (most : Int) (xs : List Rg) : List Rg := xs.drop (xs.length - most.toNat)
def mostOf (m : Int) : Int := if m ≤ 1 then 1 else m
theorem mostOf_pos (m : Int) : 1 ≤ mostOf m := by unfold mostOf; split <;> omega
/-- Where the search for the first range that meets or touches ends; and the one behind the last. -/
def iOf (xs : List Rg) (lo : Nat) : Nat := (xs.takeWhile (fun x => decide (x.2 < lo))).length
def kOf (xs : List Rg) (i hi : Nat) : Nat := i + ((xs.drop i).takeWhile (fun x => decide (x.1 ≤ hi))).length
def fuse (r : Rg) (m : List Rg) : Rg := m.foldl (fun r x => (min r.1 x.1, max r.2 x.2)) r
def addRaw (xs : List Rg) (lo hi : Nat) : List Rg :=
  xs.take (iOf xs lo) ++ fuse (lo, hi) ((xs.take (kOf xs (iOf xs lo) hi)).drop (iOf xs lo)) :: xs.drop (kOf xs (iOf xs lo) hi)
def addL (most : Int) (xs : List Rg) (lo hi : Nat) : List Rg := trimL most (addRaw xs lo hi)
theorem tw_le (p : Rg → Bool) (xs : List Rg) : (xs.takeWhile p).length ≤ xs.length := (List.takeWhile_prefix p).length_le
theorem tw_lt {p : Rg → Bool} : ∀ {xs : List Rg} {j : Nat}, j < (xs.takeWhile p).length → ∃ r, xs[j]? = some r ∧ p r = true
  | [], j, h => by simp at h
  | x :: xs, j, h => by
    cases hp : p x with
    | true =>
      rw [List.takeWhile_cons_of_pos hp] at h
      cases j with
      | zero => exact ⟨x, rfl, hp⟩
      | succ j =>
        obtain ⟨r, h1, h2⟩ := tw_lt (xs := xs) (j := j) (by simpa using h)
        exact ⟨r, by simpa using h1, h2⟩
    | false =>
      rw [List.takeWhile_cons_of_neg (by simp [hp])] at h
      simp at h
theorem tw_end {p : Rg → Bool} : ∀ {xs : List Rg} {r : Rg}, xs[(xs.takeWhile p).length]? = some r → p r = false
  | [], r, h => by simp at h
  | x :: xs, r, h => by
    cases hp : p x with
    | true =>
      rw [List.takeWhile_cons_of_pos hp] at h
      simp only [List.length_cons, List.getElem?_cons_succ] at h
      exact tw_end h
    | false =>
      rw [List.takeWhile_cons_of_neg (by simp [hp])] at h
      simp at h
      subst h
      exact hp
theorem iOf_lt {xs : List Rg} {lo j : Nat} (h : j < iOf xs lo) : ∃ r, xs[j]? = some r ∧ r.2 < lo := by
  obtain ⟨r, h1, h2⟩ := tw_lt h
  exact ⟨r, h1, by simpa using h2⟩
theorem iOf_end {xs : List Rg} {lo : Nat} {r : Rg} (h : xs[iOf xs lo]? = some r) : lo ≤ r.2 := by
  have := tw_end h
  simpa using this
theorem iOf_le (xs : List Rg) (lo : Nat) : iOf xs lo ≤ xs.length := tw_le _ _
theorem kOf_le {xs : List Rg} {i : Nat} (hi : Nat) (h : i ≤ xs.length) : kOf xs i hi ≤ xs.length := by
  unfold kOf
  have := tw_le (fun x => decide (x.1 ≤ hi)) (xs.drop i)
  rw [List.length_drop] at this
  omega
theorem kOf_ge (xs : List Rg) (i hi : Nat) : i ≤ kOf xs i hi := by unfold kOf; omega
theorem kOf_lt {xs : List Rg} {i hi j : Nat} (h1 : i ≤ j) (h : j < kOf xs i hi) : ∃ r, xs[j]? = some r ∧ r.1 ≤ hi := by
  unfold kOf at h
  obtain ⟨r, h2, h3⟩ := tw_lt (p := fun x => decide (x.1 ≤ hi)) (xs := xs.drop i) (j := j - i) (by omega)
  rw [List.getElem?_drop, show i + (j - i) = j by omega] at h2
  exact ⟨r, h2, by simpa using h3⟩
theorem kOf_end {xs : List Rg} {i hi : Nat} {r : Rg} (h : xs[kOf xs i hi]? = some r) : hi < r.1 := by
  unfold kOf at h
  rw [← List.getElem?_drop] at h
  have := tw_end h
  simpa using this
theorem fuse_step {r x : Rg} {xs : List Rg} {i k : Nat} (hik : i ≤ k) (hx : xs[k]? = some x) :
    fuse r ((xs.take (k + 1)).drop i) = (min (fuse r ((xs.take k).drop i)).1 x.1, max (fuse r ((xs.take k).drop i)).2 x.2) := by
  have hk : k < xs.length := (List.getElem?_eq_some_iff.1 hx).1
  rw [List.take_add_one, hx, List.drop_append_of_le_length (by rw [List.length_take]; omega)]
  simp [fuse]
/-- Rising ranges, none touching another, of numbers that may be. -/
def Norm (xs : List Rg) : Prop := (∀ r ∈ xs, r.1 < r.2 ∧ r.2 ≤ 4611686018427387904) ∧ xs.Pairwise (fun a b => a.2 < b.1)
theorem Norm.at {xs : List Rg} (h : Norm xs) {k : Nat} {r : Rg} (hr : xs[k]? = some r) : r.1 < r.2 ∧ r.2 ≤ 4611686018427387904 := h.1 r (List.mem_of_getElem? hr)
def topL (xs : List Rg) : Nat := match xs.getLast? with | some r => r.2 - 1 | none => 0
def someL (xs : List Rg) : Bool := match xs with | [] => false | _ => true
def cntL (xs : List Rg) : Nat := (xs.map fun r => r.2 - r.1).sum
theorem cntL_take {xs : List Rg} {k : Nat} {r : Rg} (h : xs[k]? = some r) : cntL (xs.take (k + 1)) = cntL (xs.take k) + (r.2 - r.1) := by
  rw [List.take_add_one, h]
  simp [cntL]
theorem cntL_room : ∀ (xs : List Rg) (a : Nat), Norm xs → (∀ r ∈ xs, a ≤ r.1) → a ≤ 4611686018427387904 → cntL xs + a ≤ 4611686018427387904
  | [], a, _, _, ha => by simpa [cntL] using ha
  | r :: xs, a, hn, hl, _ => by
    obtain ⟨h1, h2⟩ := List.pairwise_cons.1 hn.2
    have hr := hn.1 r (List.mem_cons_self ..)
    have := cntL_room xs r.2 ⟨fun x hx => hn.1 x (List.mem_cons_of_mem _ hx), h2⟩ (fun x hx => Nat.le_of_lt (h1 x hx)) hr.2
    have ha := hl r (List.mem_cons_self ..)
    have : cntL (r :: xs) = r.2 - r.1 + cntL xs := by simp [cntL]
    omega
theorem Norm.take {xs : List Rg} (h : Norm xs) (k : Nat) : Norm (xs.take k) :=
  ⟨fun r hr => h.1 r (List.mem_of_mem_take hr), h.2.sublist (List.take_sublist _ _)⟩
theorem cntL_le {xs : List Rg} (h : Norm xs) : cntL xs ≤ 4611686018427387904 := by
  have := cntL_room xs 0 h (fun _ _ => Nat.zero_le _) (by omega)
  omega
/-- From where, and up to where: what Gap's loop leaves. -/
def gapF : List Rg → Nat → Nat → Nat × Nat
  | [], f, t => (f, t)
  | r :: rs, f, t => if r.2 ≤ f then gapF rs f t else if f < r.1 then (f, min t r.1) else gapF rs r.2 t
def gapL (xs : List Rg) (f t : Nat) : Rg × Bool := if (gapF xs f t).2 ≤ (gapF xs f t).1 then ((0, 0), false) else (gapF xs f t, true)
theorem drop_at {xs : List Rg} {k : Nat} {r : Rg} (h : xs[k]? = some r) : xs.drop k = r :: xs.drop (k + 1) := by
  obtain ⟨h1, h2⟩ := List.getElem?_eq_some_iff.1 h
  rw [← h2]
  exact List.drop_eq_getElem_cons h1
def cut1 (lo hi : Nat) (r : Rg) : List Rg :=
  if hi ≤ lo ∨ r.2 ≤ lo ∨ hi ≤ r.1 then [r] else (if r.1 < lo then [(r.1, lo)] else []) ++ (if hi < r.2 then [(hi, r.2)] else [])
def cutRaw (lo hi : Nat) (xs : List Rg) : List Rg := xs.flatMap (cut1 lo hi)
theorem cut1_len (lo hi : Nat) (r : Rg) : (cut1 lo hi r).length ≤ 2 := by
  unfold cut1
  repeat' split
  all_goals simp
theorem cutRaw_take {lo hi : Nat} {xs : List Rg} {k : Nat} {r : Rg} (h : xs[k]? = some r) : cutRaw lo hi (xs.take (k + 1)) = cutRaw lo hi (xs.take k) ++ cut1 lo hi r := by
  rw [List.take_add_one, h]
  simp [cutRaw]
theorem cutRaw_len (lo hi : Nat) : ∀ xs : List Rg, (cutRaw lo hi xs).length ≤ 2 * xs.length
  | [] => by simp [cutRaw]
  | r :: xs => by
    have h1 := cut1_len lo hi r
    have h2 := cutRaw_len lo hi xs
    have : (cutRaw lo hi (r :: xs)).length = (cut1 lo hi r).length + (cutRaw lo hi xs).length := by simp [cutRaw]
    simp only [List.length_cons]
    omega
def fromR (f : Nat) (r : Rg) : Nat := if r.1 ≤ f ∧ f < r.2 then r.2 else f
def endR (f : Nat) (e : Nat) (r : Rg) : Nat := if f < r.1 then min e r.1 else e
def gapR (xs : List Rg) (f t : Nat) : Rg × Bool :=
  if t ≤ xs.foldl fromR f then ((0, 0), false) else ((xs.foldl fromR f, xs.foldl (endR (xs.foldl fromR f)) t), true)
theorem foldl_take {β : Type} (g : β → Rg → β) (b : β) {xs : List Rg} {k : Nat} {r : Rg} (h : xs[k]? = some r) : (xs.take (k + 1)).foldl g b = g ((xs.take k).foldl g b) r := by
  rw [List.take_add_one, h]
  simp
theorem from_lt {xs : List Rg} (h : Norm xs) : ∀ {f : Nat}, f < 18446744073709551616 → xs.foldl fromR f < 18446744073709551616 := by
  have h1 := h.1
  clear h
  induction xs with
  | nil => intro f hf; exact hf
  | cons r xs ih =>
    intro f hf
    refine ih (fun x hx => h1 x (List.mem_cons_of_mem _ hx)) (f := fromR f r) ?_
    have := h1 r (List.mem_cons_self ..)
    unfold fromR
    split <;> omega
theorem end_le (f : Nat) (xs : List Rg) : ∀ e : Nat, xs.foldl (endR f) e ≤ e := by
  induction xs with
  | nil => intro e; exact Nat.le_refl _
  | cons r xs ih =>
    intro e
    refine Nat.le_trans (ih (endR f e r)) ?_
    unfold endR
    split <;> omega
structure Ra where
  out : List Rg
  x : Rg
  done : Bool
def Ra.step (s : Ra) (r : Rg) : Ra :=
  if r.2 < s.x.1 then ⟨s.out ++ [r], s.x, s.done⟩
  else if s.x.2 < r.1 then ⟨(if s.done then s.out else s.out ++ [s.x]) ++ [r], s.x, true⟩
  else ⟨s.out, (min s.x.1 r.1, max s.x.2 r.2), s.done⟩
def raOf (lo hi : Nat) (xs : List Rg) : Ra := xs.foldl Ra.step ⟨[], (lo, hi), false⟩
def addR (lo hi : Nat) (xs : List Rg) : List Rg := if (raOf lo hi xs).done then (raOf lo hi xs).out else (raOf lo hi xs).out ++ [(raOf lo hi xs).x]
theorem raOf_take {lo hi : Nat} {xs : List Rg} {k : Nat} {r : Rg} (h : xs[k]? = some r) : raOf lo hi (xs.take (k + 1)) = (raOf lo hi (xs.take k)).step r := by
  rw [raOf, List.take_add_one, h]
  simp [raOf]
theorem Ra.step_len (s : Ra) (r : Rg) : (s.step r).out.length ≤ s.out.length + 2 := by
  unfold Ra.step
  repeat' split
  all_goals simp
theorem raOf_len (lo hi : Nat) : ∀ xs : List Rg, (raOf lo hi xs).out.length ≤ 2 * xs.length := by
  have h : ∀ (xs : List Rg) (s : Ra), (xs.foldl Ra.step s).out.length ≤ s.out.length + 2 * xs.length := by
    intro xs
    induction xs with
    | nil => intro s; simp
    | cons r xs ih =>
      intro s
      have h1 := ih (s.step r)
      have h2 := s.step_len r
      simp only [List.foldl_cons, List.length_cons]
      omega
  intro xs
  have := h xs ⟨[], (lo, hi), false⟩
  simpa [raOf] using this
end Go.Proofs.Ytebiebcpdjipjaa

/- DERIVED. Plain laws of lists of ranges: the program's answers are the document's. -/
namespace Go.Proofs.Ytebiebcpdjipjaa
open Go.RowKit

theorem from_ge (xs : List Rg) : ∀ f : Nat, f ≤ xs.foldl fromR f := by
  induction xs with
  | nil => intro f; exact Nat.le_refl _
  | cons r xs ih =>
    intro f
    refine Nat.le_trans ?_ (ih (fromR f r))
    unfold fromR
    split <;> omega
theorem from_above (xs : List Rg) (f : Nat) (h : ∀ r ∈ xs, f < r.1) : xs.foldl fromR f = f := by
  induction xs with
  | nil => rfl
  | cons r xs ih =>
    have h1 := h r (List.mem_cons_self ..)
    simp only [List.foldl_cons]
    rw [show fromR f r = f by rw [fromR, if_neg (by omega)]]
    exact ih (fun x hx => h x (List.mem_cons_of_mem _ hx))
theorem end_above (xs : List Rg) (f e : Nat) (h : ∀ r ∈ xs, e ≤ r.1) : xs.foldl (endR f) e = e := by
  induction xs with
  | nil => rfl
  | cons r xs ih =>
    have h1 := h r (List.mem_cons_self ..)
    simp only [List.foldl_cons]
    rw [show endR f e r = e by unfold endR; split <;> omega]
    exact ih (fun x hx => h x (List.mem_cons_of_mem _ hx))
theorem Norm.tail {r : Rg} {xs : List Rg} (h : Norm (r :: xs)) : Norm xs := ⟨fun x hx => h.1 x (List.mem_cons_of_mem _ hx), (List.pairwise_cons.1 h.2).2⟩
theorem Norm.head {r : Rg} {xs : List Rg} (h : Norm (r :: xs)) : (r.1 < r.2 ∧ r.2 ≤ 4611686018427387904) ∧ ∀ x ∈ xs, r.2 < x.1 := ⟨h.1 r (List.mem_cons_self ..), (List.pairwise_cons.1 h.2).1⟩
theorem gapF_is (t : Nat) : ∀ (xs : List Rg) (f : Nat), Norm xs →
    (gapF xs f t).1 = xs.foldl fromR f ∧ (gapF xs f t).2 = xs.foldl (endR (xs.foldl fromR f)) t ∧ ((gapF xs f t).2 ≤ (gapF xs f t).1 ↔ t ≤ (gapF xs f t).1)
  | [], f, _ => ⟨rfl, rfl, Iff.rfl⟩
  | r :: xs, f, hn => by
    obtain ⟨⟨h1, h2⟩, h3⟩ := hn.head
    unfold gapF
    by_cases c1 : r.2 ≤ f
    · rw [if_pos c1]
      obtain ⟨i1, i2, i3⟩ := gapF_is t xs f hn.tail
      have e1 : fromR f r = f := by rw [fromR, if_neg (by omega)]
      have g := from_ge xs f
      have e2 : endR (xs.foldl fromR f) t r = t := by rw [endR, if_neg (by omega)]
      simp only [List.foldl_cons, e1, e2]
      exact ⟨i1, i2, i3⟩
    · rw [if_neg c1]
      by_cases c2 : f < r.1
      · rw [if_pos c2]
        have e1 : fromR f r = f := by rw [fromR, if_neg (by omega)]
        have e2 : endR f t r = min t r.1 := by rw [endR, if_pos c2]
        simp only [List.foldl_cons, e1]
        rw [from_above xs f (fun x hx => by have := h3 x hx; omega), e2, end_above xs f _ (fun x hx => by have := h3 x hx; omega)]
        exact ⟨rfl, rfl, by omega⟩
      · rw [if_neg c2]
        obtain ⟨i1, i2, i3⟩ := gapF_is t xs r.2 hn.tail
        have e1 : fromR f r = r.2 := by rw [fromR, if_pos (by omega)]
        have g := from_ge xs r.2
        have e2 : endR (xs.foldl fromR r.2) t r = t := by rw [endR, if_neg (by omega)]
        simp only [List.foldl_cons, e1, e2]
        exact ⟨i1, i2, i3⟩
theorem gapR_is (xs : List Rg) (f t : Nat) (hn : Norm xs) : gapR xs f t = gapL xs f t := by
  obtain ⟨i1, i2, i3⟩ := gapF_is t xs f hn
  unfold gapR gapL
  by_cases h : t ≤ xs.foldl fromR f
  · rw [if_pos h, if_pos (by rw [i3, i1]; exact h)]
  · rw [if_neg h, if_neg (by rw [i3, i1]; exact h), ← i2, ← i1]
end Go.Proofs.Ytebiebcpdjipjaa

/- DERIVED. Plain laws: the two ways to add a range are one. -/
namespace Go.Proofs.Ytebiebcpdjipjaa
open Go.RowKit

def addN : List Rg → Rg → List Rg
  | [], x => [x]
  | r :: rs, x => if r.2 < x.1 then r :: addN rs x else if x.2 < r.1 then x :: r :: rs else addN rs (min x.1 r.1, max x.2 r.2)

theorem ra_after (rs : List Rg) : ∀ (ys : List Rg) (x : Rg), (∀ r ∈ rs, ¬ r.2 < x.1 ∧ x.2 < r.1) → rs.foldl Ra.step ⟨ys, x, true⟩ = ⟨ys ++ rs, x, true⟩ := by
  induction rs with
  | nil => intro ys x _; simp
  | cons r rs ih =>
    intro ys x h
    obtain ⟨h1, h2⟩ := h r (List.mem_cons_self ..)
    simp only [List.foldl_cons]
    rw [show Ra.step ⟨ys, x, true⟩ r = ⟨ys ++ [r], x, true⟩ by simp [Ra.step, h1, h2], ih _ _ (fun a ha => h a (List.mem_cons_of_mem _ ha))]
    simp
def Ra.fin (s : Ra) : List Rg := if s.done then s.out else s.out ++ [s.x]
theorem ra_is (rs : List Rg) : ∀ (ys : List Rg) (x : Rg), x.1 < x.2 → Norm rs → (rs.foldl Ra.step ⟨ys, x, false⟩).fin = ys ++ addN rs x := by
  induction rs with
  | nil => intro ys x _ _; simp [Ra.fin, addN]
  | cons r rs ih =>
    intro ys x hx hn
    obtain ⟨⟨h1, h2⟩, h3⟩ := hn.head
    simp only [List.foldl_cons, addN]
    by_cases c1 : r.2 < x.1
    · rw [if_pos c1, show Ra.step ⟨ys, x, false⟩ r = ⟨ys ++ [r], x, false⟩ by simp [Ra.step, c1], ih _ _ hx hn.tail]
      simp
    · rw [if_neg c1]
      by_cases c2 : x.2 < r.1
      · rw [if_pos c2, show Ra.step ⟨ys, x, false⟩ r = ⟨ys ++ [x] ++ [r], x, true⟩ by simp [Ra.step, c1, c2], ra_after _ _ _ (fun a ha => by
          have := h3 a ha
          have := hn.1 a (List.mem_cons_of_mem _ ha)
          omega)]
        simp [Ra.fin]
      · rw [if_neg c2, show Ra.step ⟨ys, x, false⟩ r = ⟨ys, (min x.1 r.1, max x.2 r.2), false⟩ by simp [Ra.step, c1, c2], ih _ _ (by simp only []; omega) hn.tail]
theorem addR_is {xs : List Rg} {lo hi : Nat} (h : lo < hi) (hn : Norm xs) : addR lo hi xs = addN xs (lo, hi) := by
  have := ra_is xs [] (lo, hi) h hn
  rw [List.nil_append] at this
  exact this

theorem addN_mid (hi : Nat) : ∀ (rs : List Rg) (x : Rg), x.1 < x.2 → Norm rs → (∀ r ∈ rs, x.1 ≤ r.2) → (∀ r ∈ rs, x.2 < r.1 ↔ hi < r.1) →
    addN rs x = fuse x (rs.takeWhile (fun x => decide (x.1 ≤ hi))) :: rs.drop (rs.takeWhile (fun x => decide (x.1 ≤ hi))).length
  | [], x, _, _, _, _ => by simp [addN, fuse]
  | r :: rs, x, hx, hn, hb, hc => by
    obtain ⟨⟨h1, h2⟩, h3⟩ := hn.head
    have b1 := hb r (List.mem_cons_self ..)
    have c1 := hc r (List.mem_cons_self ..)
    rw [addN, if_neg (by omega)]
    by_cases c2 : x.2 < r.1
    · rw [if_pos c2, List.takeWhile_cons_of_neg (by simpa using c1.1 c2)]
      simp [fuse]
    · have c3 : ¬ hi < r.1 := fun h => c2 (c1.2 h)
      rw [if_neg c2, List.takeWhile_cons_of_pos (by simpa using Nat.le_of_not_lt c3), addN_mid hi rs _ (by simp only []; omega) hn.tail (fun a ha => by
        have := h3 a ha
        have := hn.1 a (List.mem_cons_of_mem _ ha)
        simp only []
        omega) (fun a ha => by
        have := h3 a ha
        have := hn.1 a (List.mem_cons_of_mem _ ha)
        have := hc a (List.mem_cons_of_mem _ ha)
        simp only []
        omega)]
      simp [fuse]
theorem addRaw_is {lo hi : Nat} (h : lo < hi) : ∀ (xs : List Rg), Norm xs → addRaw xs lo hi = addN xs (lo, hi)
  | [], _ => by simp [addRaw, iOf, kOf, fuse, addN]
  | r :: rs, hn => by
    obtain ⟨⟨h1, h2⟩, h3⟩ := hn.head
    by_cases c1 : r.2 < lo
    · have ih := addRaw_is h rs hn.tail
      have hi1 : iOf (r :: rs) lo = iOf rs lo + 1 := by unfold iOf; rw [List.takeWhile_cons_of_pos (by simpa using c1)]; simp
      have hk1 : kOf (r :: rs) (iOf (r :: rs) lo) hi = kOf rs (iOf rs lo) hi + 1 := by rw [hi1]; unfold kOf; simp; omega
      rw [addN, if_pos c1, ← ih]
      unfold addRaw
      rw [hk1, hi1]
      simp
    · have hi0 : iOf (r :: rs) lo = 0 := by unfold iOf; rw [List.takeWhile_cons_of_neg (by simpa using c1)]; rfl
      have := addN_mid hi (r :: rs) (lo, hi) h hn (fun a ha => by
        rcases List.mem_cons.1 ha with rfl | ha
        · simp only []; omega
        · have := h3 a ha
          have := hn.1 a (List.mem_cons_of_mem _ ha)
          simp only []
          omega) (fun a _ => Iff.rfl)
      rw [this]
      unfold addRaw
      rw [hi0]
      unfold kOf
      simp only [List.take_zero, List.nil_append, List.drop_zero, Nat.zero_add]
      congr 2
      exact (List.prefix_iff_eq_take.1 (List.takeWhile_prefix _)).symm
theorem addRaw_addR {xs : List Rg} {lo hi : Nat} (h : lo < hi) (hn : Norm xs) : addR lo hi xs = addRaw xs lo hi := by rw [addR_is h hn, addRaw_is h xs hn]
end Go.Proofs.Ytebiebcpdjipjaa

/- DERIVED. Plain laws: what adds, cuts, trims keep; what is in a list behind them. -/
namespace Go.Proofs.Ytebiebcpdjipjaa
open Go.RowKit

theorem addN_above (L : Nat) : ∀ (rs : List Rg) (x : Rg), L < x.1 → (∀ r ∈ rs, L < r.1) → ∀ a ∈ addN rs x, L < a.1
  | [], x, hx, _, a, ha => by simp [addN] at ha; subst ha; exact hx
  | r :: rs, x, hx, hr, a, ha => by
    have h1 := hr r (List.mem_cons_self ..)
    have h2 : ∀ r ∈ rs, L < r.1 := fun b hb => hr b (List.mem_cons_of_mem _ hb)
    unfold addN at ha
    split at ha
    · rcases List.mem_cons.1 ha with rfl | ha
      · exact h1
      · exact addN_above L rs x hx h2 a ha
    · split at ha
      · rcases List.mem_cons.1 ha with rfl | ha
        · exact hx
        · exact hr a ha
      · exact addN_above L rs _ (by simp only []; omega) h2 a ha
theorem addN_norm : ∀ (rs : List Rg) (x : Rg), x.1 < x.2 → x.2 ≤ 4611686018427387904 → Norm rs → Norm (addN rs x)
  | [], x, h1, h2, _ => ⟨by intro a ha; simp [addN] at ha; subst ha; exact ⟨h1, h2⟩, by simp [addN]⟩
  | r :: rs, x, h1, h2, hn => by
    obtain ⟨⟨h3, h4⟩, h5⟩ := hn.head
    unfold addN
    split
    · rename_i c
      have ih := addN_norm rs x h1 h2 hn.tail
      refine ⟨?_, List.pairwise_cons.2 ⟨addN_above r.2 rs x c h5, ih.2⟩⟩
      intro a ha
      rcases List.mem_cons.1 ha with rfl | ha
      · exact ⟨h3, h4⟩
      · exact ih.1 a ha
    · split
      · rename_i c1 c2
        refine ⟨?_, List.pairwise_cons.2 ⟨?_, hn.2⟩⟩
        · intro a ha
          rcases List.mem_cons.1 ha with rfl | ha
          · exact ⟨h1, h2⟩
          · exact hn.1 a ha
        · intro a ha
          rcases List.mem_cons.1 ha with rfl | ha
          · exact c2
          · have := h5 a ha
            omega
      · exact addN_norm rs _ (by simp only []; omega) (by simp only []; omega) hn.tail
theorem addN_len : ∀ (rs : List Rg) (x : Rg), (addN rs x).length ≤ rs.length + 1
  | [], x => by simp [addN]
  | r :: rs, x => by
    unfold addN
    split
    · have := addN_len rs x
      simp only [List.length_cons]
      omega
    · split
      · simp
      · have := addN_len rs (min x.1 r.1, max x.2 r.2)
        simp only [List.length_cons]
        omega
theorem Norm.drop {xs : List Rg} (h : Norm xs) (k : Nat) : Norm (xs.drop k) :=
  ⟨fun r hr => h.1 r (List.mem_of_mem_drop hr), h.2.sublist (List.drop_sublist _ _)⟩
theorem trim_norm {xs : List Rg} (most : Int) (h : Norm xs) : Norm (trimL most xs) := h.drop _
theorem trim_len (most : Int) (xs : List Rg) (h : 0 ≤ most) : ((trimL most xs).length : Int) ≤ most ∧ (trimL most xs).length ≤ xs.length := by
  unfold trimL
  rw [List.length_drop]
  omega
theorem cut1_in {lo hi : Nat} {r a : Rg} (hr : r.1 < r.2) (ha : a ∈ cut1 lo hi r) : r.1 ≤ a.1 ∧ a.1 < a.2 ∧ a.2 ≤ r.2 := by
  unfold cut1 at ha
  split at ha
  · simp at ha
    subst ha
    omega
  · rename_i c
    rcases List.mem_append.1 ha with ha | ha
    · split at ha
      · simp at ha
        subst ha
        simp only []
        omega
      · simp at ha
    · split at ha
      · simp at ha
        subst ha
        simp only []
        omega
      · simp at ha
theorem cut1_norm {lo hi : Nat} {r : Rg} (hr : r.1 < r.2 ∧ r.2 ≤ 4611686018427387904) : Norm (cut1 lo hi r) := by
  refine ⟨fun a ha => by have := cut1_in hr.1 ha; omega, ?_⟩
  unfold cut1
  split
  · simp
  · split <;> split <;> simp
    omega
theorem cut_norm (lo hi : Nat) : ∀ xs : List Rg, Norm xs → Norm (cutRaw lo hi xs)
  | [], _ => ⟨by simp [cutRaw], by simp [cutRaw]⟩
  | r :: xs, hn => by
    obtain ⟨h1, h2⟩ := hn.head
    have ih := cut_norm lo hi xs hn.tail
    have hc := cut1_norm (lo := lo) (hi := hi) h1
    have e : cutRaw lo hi (r :: xs) = cut1 lo hi r ++ cutRaw lo hi xs := by simp [cutRaw]
    rw [e]
    refine ⟨?_, List.pairwise_append.2 ⟨hc.2, ih.2, ?_⟩⟩
    · intro a ha
      rcases List.mem_append.1 ha with ha | ha
      · exact hc.1 a ha
      · exact ih.1 a ha
    · intro a ha b hb
      obtain ⟨c, hc1, hc2⟩ := List.mem_flatMap.1 hb
      have := cut1_in h1.1 ha
      have := cut1_in (hn.tail.1 c hc1).1 hc2
      have := h2 c hc1
      omega
end Go.Proofs.Ytebiebcpdjipjaa

/- DERIVED. Plain laws: which numbers are in a list behind an add, a cut; how many. -/
namespace Go.Proofs.Ytebiebcpdjipjaa
open Go.RowKit

theorem any_addN (n : Nat) : ∀ (rs : List Rg) (x : Rg), x.1 < x.2 → Norm rs → (addN rs x).any (hasP n) = (hasP n x || rs.any (hasP n))
  | [], x, _, _ => by simp [addN]
  | r :: rs, x, hx, hn => by
    obtain ⟨⟨h1, h2⟩, h3⟩ := hn.head
    unfold addN
    split
    · rw [List.any_cons, any_addN n rs x hx hn.tail, List.any_cons]
      cases hasP n r <;> cases hasP n x <;> simp
    · split
      · simp [List.any_cons]
      · rename_i c1 c2
        rw [any_addN n rs _ (by simp only []; omega) hn.tail, List.any_cons]
        have e : hasP n (min x.1 r.1, max x.2 r.2) = (hasP n x || hasP n r) := by
          rw [Bool.eq_iff_iff]
          simp only [hasP, Bool.and_eq_true, decide_eq_true_eq, Bool.or_eq_true]
          omega
        rw [e, Bool.or_assoc]
theorem any_cut1 (n lo hi : Nat) (r : Rg) (_hr : r.1 < r.2) (h : lo < hi) : (cut1 lo hi r).any (hasP n) = (hasP n r && !(hasP n (lo, hi))) := by
  rw [Bool.eq_iff_iff]
  unfold cut1
  repeat' split
  all_goals simp only [List.any_append, List.any_cons, List.any_nil, hasP, Bool.and_eq_true, Bool.or_eq_true, decide_eq_true_eq, Bool.not_eq_true', Bool.and_eq_false_iff, decide_eq_false_iff_not, Bool.or_false, Bool.false_or, Bool.false_eq_true, false_iff, not_and, not_or]
  all_goals first | omega | (intro h1; omega)
theorem any_cut (n lo hi : Nat) (h : lo < hi) : ∀ xs : List Rg, Norm xs → (cutRaw lo hi xs).any (hasP n) = (xs.any (hasP n) && !(hasP n (lo, hi)))
  | [], _ => by simp [cutRaw]
  | r :: xs, hn => by
    have e : cutRaw lo hi (r :: xs) = cut1 lo hi r ++ cutRaw lo hi xs := by simp [cutRaw]
    rw [e, List.any_append, any_cut1 n lo hi r hn.head.1.1 h, any_cut n lo hi h xs hn.tail, List.any_cons]
    cases hasP n r <;> cases xs.any (hasP n) <;> simp
theorem cut_none {lo hi : Nat} (h : hi ≤ lo) (xs : List Rg) : cutRaw lo hi xs = xs := by
  induction xs with
  | nil => simp [cutRaw]
  | cons r xs ih =>
    have e : cutRaw lo hi (r :: xs) = cut1 lo hi r ++ cutRaw lo hi xs := by simp [cutRaw]
    rw [e, ih, cut1, if_pos (.inl h)]
    rfl
theorem trim_all {most : Int} {xs : List Rg} (h : (xs.length : Int) ≤ most) : trimL most xs = xs := by
  unfold trimL
  rw [show xs.length - most.toNat = 0 by omega, List.drop_zero]
end Go.Proofs.Ytebiebcpdjipjaa

/- DERIVED. Plain laws: counting the numbers of a list of ranges; gaps. -/
namespace Go.Proofs.Ytebiebcpdjipjaa
open Go.RowKit

/-- How many numbers below n are such. -/
def cnt (p : Nat → Bool) : Nat → Nat
  | 0 => 0
  | n + 1 => cnt p n + if p n then 1 else 0
theorem cnt_or {p q : Nat → Bool} : ∀ n, (∀ k, k < n → p k = true → q k = false) → cnt (fun k => p k || q k) n = cnt p n + cnt q n
  | 0, _ => rfl
  | n + 1, h => by
    simp only [cnt]
    rw [cnt_or n (fun k hk => h k (by omega))]
    have h1 := h n (by omega)
    have key : ∀ a b : Bool, (a = true → b = false) → (if (a || b) = true then 1 else 0) = (if a = true then 1 else 0) + (if b = true then 1 else 0) := by decide
    rw [key _ _ h1]
    omega
theorem cnt_eq {p q : Nat → Bool} : ∀ n, (∀ k, k < n → p k = q k) → cnt p n = cnt q n
  | 0, _ => rfl
  | n + 1, h => by simp only [cnt]; rw [cnt_eq n (fun k hk => h k (by omega)), h n (by omega)]
theorem cnt_rg (r : Rg) (h : r.1 < r.2) : ∀ n, cnt (fun k => hasP k r) n = min n r.2 - min n r.1
  | 0 => by simp [cnt]
  | n + 1 => by
    simp only [cnt]
    rw [cnt_rg r h n]
    simp only [hasP, Bool.and_eq_true, decide_eq_true_eq]
    split <;> omega
def mem (xs : List Rg) (k : Nat) : Bool := xs.any (hasP k)
theorem mem_lo {xs : List Rg} (_hn : Norm xs) {a : Nat} (h : ∀ r ∈ xs, a < r.1) {k : Nat} (hk : k ≤ a) : mem xs k = false := by
  unfold mem
  rw [List.any_eq_false]
  intro r hr
  have := h r hr
  simp [hasP]
  omega
theorem cntL_cnt (a : Nat) : ∀ xs : List Rg, Norm xs → (∀ r ∈ xs, r.2 ≤ a) → cntL xs = cnt (mem xs) a
  | [], _, _ => by
    have : ∀ n, cnt (mem []) n = 0 := by
      intro n
      induction n with
      | zero => rfl
      | succ n ih => simp [cnt, ih, mem]
    rw [this]
    rfl
  | r :: xs, hn, ha => by
    obtain ⟨⟨h1, h2⟩, h3⟩ := hn.head
    have e : cnt (mem (r :: xs)) a = cnt (fun k => hasP k r || mem xs k) a := cnt_eq a (fun k _ => by simp [mem])
    rw [e, cnt_or a (fun k _ hk => by
      simp [hasP] at hk
      exact mem_lo hn.tail h3 (by omega)), ← cntL_cnt a xs hn.tail (fun x hx => ha x (List.mem_cons_of_mem _ hx)), cnt_rg r h1]
    have := ha r (List.mem_cons_self ..)
    have e2 : cntL (r :: xs) = r.2 - r.1 + cntL xs := by simp [cntL]
    rw [e2]
    omega
theorem cnt_all {p : Nat → Bool} {a : Nat} : ∀ d, (∀ k, a ≤ k → k < a + d → p k = true) → cnt p (a + d) = cnt p a + d
  | 0, _ => rfl
  | d + 1, h => by
    rw [← Nat.add_assoc, cnt, cnt_all d (fun k h1 h2 => h k h1 (by omega)), h (a + d) (by omega) (by omega)]
    simp
    omega
theorem cnt_none {p : Nat → Bool} {a : Nat} : ∀ d, (∀ k, a ≤ k → k < a + d → p k = false) → cnt p (a + d) = cnt p a
  | 0, _ => rfl
  | d + 1, h => by
    rw [← Nat.add_assoc, cnt, cnt_none d (fun k h1 h2 => h k h1 (by omega)), h (a + d) (by omega) (by omega)]
    simp

/-- What a gap is. -/
theorem gapF_facts (t : Nat) : ∀ (xs : List Rg) (f : Nat), Norm xs → f ≤ (gapF xs f t).1 ∧ (gapF xs f t).2 ≤ t ∧
    (∀ k, f ≤ k → k < (gapF xs f t).1 → mem xs k = true) ∧ (∀ k, (gapF xs f t).1 ≤ k → k < (gapF xs f t).2 → mem xs k = false)
  | [], f, _ => ⟨Nat.le_refl _, Nat.le_refl _, fun k h1 h2 => by simp [gapF] at h2; omega, fun k _ _ => rfl⟩
  | r :: xs, f, hn => by
    obtain ⟨⟨h1, h2⟩, h3⟩ := hn.head
    unfold gapF
    by_cases c1 : r.2 ≤ f
    · rw [if_pos c1]
      obtain ⟨i1, i2, i3, i4⟩ := gapF_facts t xs f hn.tail
      refine ⟨i1, i2, fun k a b => ?_, fun k a b => ?_⟩
      · have := i3 k a b
        simp [mem] at this ⊢
        exact .inr this
      · have := i4 k a b
        unfold mem at *
        rw [List.any_cons, this]
        simp [hasP]
        omega
    · rw [if_neg c1]
      by_cases c2 : f < r.1
      · rw [if_pos c2]
        refine ⟨Nat.le_refl _, Nat.min_le_left _ _, fun k a b => by simp only at b; omega, fun k a b => ?_⟩
        simp only at a b
        have := mem_lo hn.tail (a := r.2) h3 (k := k) (by omega)
        unfold mem at *
        rw [List.any_cons, this]
        simp [hasP]
        omega
      · rw [if_neg c2]
        obtain ⟨i1, i2, i3, i4⟩ := gapF_facts t xs r.2 hn.tail
        refine ⟨by omega, i2, fun k a b => ?_, fun k a b => ?_⟩
        · by_cases hk : k < r.2
          · simp [mem, hasP]
            left
            omega
          · have := i3 k (by omega) b
            simp [mem] at this ⊢
            exact .inr this
        · have := i4 k a b
          unfold mem at *
          rw [List.any_cons, this]
          simp [hasP]
          omega
theorem gap_step {xs : List Rg} {f t : Nat} {r : Rg} (hn : Norm xs) (h : gapL xs f t = (r, true)) :
    f ≤ r.1 ∧ r.1 < r.2 ∧ r.2 ≤ t ∧ (∀ k, r.1 ≤ k → k < r.2 → xs.any (hasP k) = false) ∧ cnt (mem xs) r.2 = cnt (mem xs) f + (r.1 - f) := by
  obtain ⟨i1, i2, i3, i4⟩ := gapF_facts t xs f hn
  unfold gapL at h
  split at h
  · simp at h
  · rename_i c
    have h' : gapF xs f t = r := congrArg Prod.fst h
    rw [h'] at i1 i2 i3 i4 c
    refine ⟨i1, by omega, i2, i4, ?_⟩
    have e1 : r.2 = r.1 + (r.2 - r.1) := by omega
    have e2 : r.1 = f + (r.1 - f) := by omega
    have e3 := cnt_none (p := mem xs) (a := r.1) (r.2 - r.1) (fun k a b => i4 k a (by omega))
    have e4 := cnt_all (p := mem xs) (a := f) (r.1 - f) (fun k a b => i3 k a (by omega))
    rw [← e1] at e3
    rw [← e2] at e4
    omega
theorem gap_end {xs : List Rg} {f t : Nat} {g : Rg} (hn : Norm xs) (hf : f ≤ t) (ht : ∀ r ∈ xs, r.2 ≤ t) (h : gapL xs f t = (g, false)) : cntL xs = cnt (mem xs) f + (t - f) := by
  obtain ⟨i1, i2, i3, i4⟩ := gapF_facts t xs f hn
  obtain ⟨_, _, j3⟩ := gapF_is t xs f hn
  unfold gapL at h
  split at h
  · rename_i c
    have hle := j3.1 c
    rw [cntL_cnt t xs hn ht, show t = f + (t - f) from by omega, cnt_all _ (fun k a b => i3 k a (by omega))]
    omega
  · simp at h
end Go.Proofs.Ytebiebcpdjipjaa

/- DERIVED. Plain: a buffer that puts bytes in order: what lies from the next byte on. -/
namespace Go.Proofs.Ytebiebcpdjipjaa

/-- What a place holds. -/
def gt (L : List (Option Nat)) (j : Nat) : Option Nat := (L[j]?).join
theorem gt_nil (j : Nat) : gt [] j = none := by simp [gt]
theorem gt_ge {L : List (Option Nat)} {j : Nat} (h : L.length ≤ j) : gt L j = none := by
  unfold gt
  rw [List.getElem?_eq_none h]
  rfl
def ext (L : List (Option Nat)) (k : Nat) : List (Option Nat) := L ++ List.replicate (k + 1 - L.length) none
theorem ext_len (L : List (Option Nat)) (k : Nat) : (ext L k).length = max L.length (k + 1) := by
  simp [ext]
  omega
theorem gt_ext (L : List (Option Nat)) (k j : Nat) : gt (ext L k) j = gt L j := by
  unfold gt ext
  rw [List.getElem?_append]
  split
  · rfl
  · rename_i h
    rw [List.getElem?_eq_none (l := L) (by omega), List.getElem?_replicate]
    split <;> rfl
/-- One byte comes: the first one stands. -/
def put1 (L : List (Option Nat)) (k v : Nat) : List (Option Nat) := if (gt L k).isSome then ext L k else (ext L k).set k (some v)
theorem put1_len (L : List (Option Nat)) (k v : Nat) : (put1 L k v).length = max L.length (k + 1) := by
  unfold put1
  split <;> simp [ext_len]
theorem gt_put1 (L : List (Option Nat)) (k v j : Nat) : gt (put1 L k v) j = if j = k then (if (gt L k).isSome then gt L k else some v) else gt L j := by
  unfold put1
  by_cases h : (gt L k).isSome
  · rw [if_pos h, if_pos h, gt_ext]
    split
    · rename_i e; rw [e]
    · rfl
  · rw [if_neg h, if_neg h]
    by_cases e : j = k
    · subst e
      rw [if_pos rfl]
      unfold gt
      rw [List.getElem?_set_self (by rw [ext_len]; omega)]
      rfl
    · rw [if_neg e, ← gt_ext L k j]
      unfold gt
      rw [List.getElem?_set_ne (fun h => e h.symm)]
/-- One byte at an offset. -/
def putAt (rd : Nat) (s : List (Option Nat) × Nat) (v : Nat) : List (Option Nat) × Nat := (if s.2 < rd then s.1 else put1 s.1 (s.2 - rd) v, s.2 + 1)
def putN (rd off : Nat) (L : List (Option Nat)) (d : List Nat) : List (Option Nat) := (d.foldl (putAt rd) (L, off)).1
theorem putN_at (rd off : Nat) (L : List (Option Nat)) (d : List Nat) : d.foldl (putAt rd) (L, off) = (putN rd off L d, off + d.length) := by
  unfold putN
  have : ∀ (d : List Nat) (s : List (Option Nat) × Nat), (d.foldl (putAt rd) s).2 = s.2 + d.length := by
    intro d
    induction d with
    | nil => intro s; rfl
    | cons v d ih => intro s; simp only [List.foldl_cons, ih]; simp [putAt]; omega
  rw [← this d (L, off)]
theorem putN_snoc (rd off : Nat) (L : List (Option Nat)) (d : List Nat) (v : Nat) : putN rd off L (d ++ [v]) = if off + d.length < rd then putN rd off L d else put1 (putN rd off L d) (off + d.length - rd) v := by
  have h := putN_at rd off L d
  unfold putN at *
  rw [List.foldl_append]
  simp only [List.foldl_cons, List.foldl_nil]
  rw [h]
  rfl
theorem putN_nil (rd off : Nat) (L : List (Option Nat)) : putN rd off L [] = L := rfl
theorem snoc_ind {p : List Nat → Prop} (h0 : p []) (h1 : ∀ l a, p l → p (l ++ [a])) : ∀ l, p l := by
  intro l
  have : ∀ m : List Nat, p m.reverse := by
    intro m
    induction m with
    | nil => simpa using h0
    | cons a m ih => simpa using h1 _ a ih
  have := this l.reverse
  simpa using this
/-- What lies there behind it. -/
theorem gt_putN (rd off : Nat) (L : List (Option Nat)) : ∀ (d : List Nat) (j : Nat),
    gt (putN rd off L d) j = if (gt L j).isSome then gt L j else if off ≤ rd + j then d[rd + j - off]? else none := by
  apply snoc_ind
  · intro j
    rw [putN_nil]
    by_cases h : (gt L j).isSome
    · rw [if_pos h]
    · rw [if_neg h]
      simp at h
      rw [h]
      split <;> simp
  · intro d v ih j
    rw [putN_snoc]
    by_cases h1 : off + d.length < rd
    · rw [if_pos h1, ih j]
      split
      · rfl
      · split
        · rw [List.getElem?_eq_none (by omega), List.getElem?_eq_none (by simp; omega)]
        · rfl
    · rw [if_neg h1, gt_put1, ih j, ih (off + d.length - rd)]
      by_cases e : j = off + d.length - rd
      · subst e
        rw [if_pos rfl]
        have e2 : rd + (off + d.length - rd) - off = d.length := by omega
        have e3 : off ≤ rd + (off + d.length - rd) := by omega
        by_cases h : (gt L (off + d.length - rd)).isSome
        · simp [h]
        · rw [if_neg h, if_neg h, if_pos e3, if_pos e3, e2]
          simp
      · rw [if_neg e]
        split
        · rfl
        · split
          · rw [List.getElem?_append]
            split
            · rfl
            · rw [List.getElem?_eq_none (by omega), List.getElem?_eq_none (by simp; omega)]
          · rfl
theorem putN_len (rd off : Nat) (L : List (Option Nat)) : ∀ d : List Nat, (putN rd off L d).length = max L.length (if d = [] then 0 else off + d.length - rd) := by
  apply snoc_ind
  · simp [putN_nil]
  · intro d v ih
    rw [putN_snoc]
    by_cases h1 : off + d.length < rd
    · rw [if_pos h1, ih]
      by_cases hd : d = []
      · subst hd
        simp at h1 ⊢
        omega
      · simp [hd]
        omega
    · rw [if_neg h1, put1_len, ih]
      by_cases hd : d = []
      · subst hd
        simp at h1 ⊢
        omega
      · simp [hd]
        omega

/-- How many bytes could be read. -/
def rdy (L : List (Option Nat)) : Nat := (L.takeWhile Option.isSome).length
theorem rdy_le (L : List (Option Nat)) : rdy L ≤ L.length := by
  unfold rdy
  exact (List.takeWhile_sublist _).length_le
theorem rdy_lt : ∀ {L : List (Option Nat)} {j : Nat}, j < rdy L → ∃ v, gt L j = some v
  | [], j, h => by simp [rdy] at h
  | none :: L, j, h => by simp [rdy] at h
  | some v :: L, j, h => by
    cases j with
    | zero => exact ⟨v, rfl⟩
    | succ j =>
      have : j < rdy L := by simp [rdy] at h ⊢; omega
      obtain ⟨u, hu⟩ := rdy_lt this
      exact ⟨u, by simpa [gt] using hu⟩
theorem rdy_end : ∀ (L : List (Option Nat)), gt L (rdy L) = none
  | [] => rfl
  | none :: L => by simp [rdy, gt]
  | some v :: L => by
    have := rdy_end L
    simpa [rdy, gt] using this
theorem rdy_is {L : List (Option Nat)} {n : Nat} (h1 : ∀ j, j < n → (gt L j).isSome = true) (h2 : gt L n = none) : rdy L = n := by
  rcases Nat.lt_trichotomy (rdy L) n with h | h | h
  · have := h1 _ h
    rw [rdy_end] at this
    simp at this
  · exact h
  · obtain ⟨v, hv⟩ := rdy_lt h
    rw [h2] at hv
    cases hv
theorem gt_drop (L : List (Option Nat)) (n j : Nat) : gt (L.drop n) j = gt L (n + j) := by
  unfold gt
  rw [List.getElem?_drop]
def bytesOf (L : List (Option Nat)) : List Nat := L.map (fun o => o.getD 0)
theorem bytesOf_get {L : List (Option Nat)} {j v : Nat} (h : gt L j = some v) : (bytesOf L)[j]? = some v := by
  unfold gt at h
  unfold bytesOf
  rw [List.getElem?_map]
  cases hx : L[j]? with
  | none => rw [hx] at h; cases h
  | some o =>
    rw [hx] at h
    simp at h
    subst h
    rfl

structure IB where
  rd : Nat
  hi : Nat
  fin : Nat
  kn : Bool
  L : List (Option Nat)
def IB.zero : IB := ⟨0, 0, 0, false, []⟩
def IB.came (s : IB) (k : Nat) : Bool := decide (k < s.rd) || (gt s.L (k - s.rd)).isSome
def IB.finErr (s : IB) (e : Nat) (f : Bool) : Bool := (s.kn && (decide (s.fin < e) || (f && decide (e ≠ s.fin)))) || (f && decide (e < s.hi))
def IB.err (s : IB) (off n : Nat) (f : Bool) : Nat :=
  if 1099511627776 < off ∨ 512 < n then 1 else if s.finErr (off + n) f then 30 else if s.rd + 2048 < off + n then 23 else 0
def IB.put (s : IB) (off : Nat) (d : List Nat) (f : Bool) : IB :=
  ⟨s.rd, max s.hi (off + d.length), if f then off + d.length else s.fin, if f then true else s.kn, putN s.rd off s.L d⟩
def IB.add (s : IB) (off : Nat) (d : List Nat) (f : Bool) : IB := if s.err off d.length f = 0 then s.put off d f else s
def IB.num (s : IB) (most : Int) : Nat := min most.toNat (rdy s.L)
def IB.take (s : IB) (n : Nat) : IB := ⟨s.rd + n, s.hi, s.fin, s.kn, s.L.drop n⟩
def IB.out (s : IB) (n : Nat) : List Nat := (bytesOf s.L).take n
def IB.last (s : IB) : Bool := s.kn && decide (s.rd = s.fin)
def IB.whole (s : IB) : Bool := s.kn && decide (s.rd + rdy s.L = s.fin)
/-- What holds of each buffer. -/
structure IB.Ok (s : IB) : Prop where
  hi : s.hi ≤ 1099511628288
  fin : s.fin ≤ 1099511628288
  len : s.L.length ≤ 2048
  top : s.rd + s.L.length ≤ s.hi
  bys : ∀ j v, gt s.L j = some v → v < 256
theorem IB.zero_ok : IB.zero.Ok := ⟨by decide, by decide, by decide, by decide, by intro j v h; simp [IB.zero, gt] at h⟩
theorem IB.err_zero {s : IB} {off n : Nat} {f : Bool} (h : s.err off n f = 0) : (off ≤ 1099511627776 ∧ n ≤ 512) ∧ s.finErr (off + n) f = false ∧ off + n ≤ s.rd + 2048 := by
  unfold IB.err at h
  by_cases h1 : 1099511627776 < off ∨ 512 < n
  · rw [if_pos h1] at h; cases h
  · rw [if_neg h1] at h
    by_cases h2 : s.finErr (off + n) f = true
    · rw [if_pos h2] at h; cases h
    · rw [if_neg h2] at h
      by_cases h3 : s.rd + 2048 < off + n
      · rw [if_pos h3] at h; cases h
      · exact ⟨by omega, by simpa using h2, by omega⟩
theorem IB.put_ok {s : IB} (h : s.Ok) {off : Nat} {d : List Nat} {f : Bool} (he : s.err off d.length f = 0) (hd : ∀ n ∈ d, n < 256) : (s.put off d f).Ok := by
  obtain ⟨⟨h1, h2⟩, h3, h4⟩ := IB.err_zero he
  have hh := h.hi
  have hf := h.fin
  have ht := h.top
  have hl := h.len
  have e := putN_len s.rd off s.L d
  refine ⟨?_, ?_, ?_, ?_, ?_⟩
  · simp only [IB.put]; omega
  · simp only [IB.put]; split <;> omega
  · simp only [IB.put]
    rw [e]
    split <;> omega
  · simp only [IB.put]
    rw [e]
    split <;> omega
  · intro j v hv
    simp only [IB.put] at hv
    rw [gt_putN] at hv
    split at hv
    · exact h.bys j v hv
    · split at hv
      · exact hd v (List.mem_of_getElem? hv)
      · cases hv
theorem IB.add_ok {s : IB} (h : s.Ok) (off : Nat) {d : List Nat} (f : Bool) (hd : ∀ n ∈ d, n < 256) : (s.add off d f).Ok := by
  unfold IB.add
  split
  · rename_i he
    exact IB.put_ok h he hd
  · exact h
theorem IB.take_ok {s : IB} (h : s.Ok) {n : Nat} (hn : n ≤ rdy s.L) : (s.take n).Ok := by
  have := rdy_le s.L
  have ht := h.top
  have hl := h.len
  refine ⟨h.hi, h.fin, ?_, ?_, ?_⟩
  · simp only [IB.take, List.length_drop]; omega
  · simp only [IB.take, List.length_drop]; omega
  · intro j v hv
    simp only [IB.take] at hv
    rw [gt_drop] at hv
    exact h.bys _ v hv
theorem IB.num_le (s : IB) (most : Int) : s.num most ≤ rdy s.L := Nat.min_le_right _ _
end Go.Proofs.Ytebiebcpdjipjaa

/- DERIVED. Plain: the ranges that came, and what lies there. -/
namespace Go.Proofs.Ytebiebcpdjipjaa

theorem norm_count : ∀ (xs : List Rg) (a b : Nat), Norm xs → (∀ r ∈ xs, a ≤ r.1 ∧ r.2 ≤ b) → 2 * xs.length ≤ (b - a) + 1
  | [], _, _, _, _ => by simp
  | r :: xs, a, b, hn, h => by
    obtain ⟨⟨h1, h2⟩, h3⟩ := hn.head
    obtain ⟨h4, h5⟩ := h r (List.mem_cons_self ..)
    have ih := norm_count xs (r.2 + 1) b hn.tail (fun x hx => by
      have := h3 x hx
      have := h x (List.mem_cons_of_mem _ hx)
      omega)
    simp only [List.length_cons]
    cases xs with
    | nil => simp; omega
    | cons y ys =>
      have := h3 y (List.mem_cons_self ..)
      have := h y (by simp)
      have := hn.tail.head.1.1
      simp only [List.length_cons] at *
      omega
theorem mem_in {xs : List Rg} {r : Rg} (hr : r ∈ xs) {k : Nat} (h1 : r.1 ≤ k) (h2 : k < r.2) : mem xs k = true :=
  List.any_eq_true.2 ⟨r, hr, by simp [hasP, h1, h2]⟩
theorem mem_end : ∀ {xs : List Rg}, Norm xs → ∀ {r : Rg}, r ∈ xs → mem xs r.2 = false
  | [], _, r, h => by simp at h
  | x :: xs, hn, r, h => by
    obtain ⟨⟨h1, h2⟩, h3⟩ := hn.head
    have e : mem (x :: xs) r.2 = (hasP r.2 x || mem xs r.2) := by simp [mem]
    rw [e]
    rcases List.mem_cons.1 h with rfl | h
    · rw [mem_lo hn.tail h3 (Nat.le_refl _)]
      simp [hasP]
    · rw [mem_end hn.tail h]
      have := h3 r h
      have := hn.tail.1 r h
      simp [hasP]
      omega
theorem mem_of {xs : List Rg} {k : Nat} (h : mem xs k = true) : ∃ r ∈ xs, r.1 ≤ k ∧ k < r.2 := by
  obtain ⟨r, hr, h2⟩ := List.any_eq_true.1 h
  simp [hasP] at h2
  exact ⟨r, hr, h2⟩
/-- Where all below lies in it, and nothing from a bound on, there are few ranges. -/
theorem few_of {xs : List Rg} (hn : Norm xs) {a b : Nat} (h1 : ∀ k, k < a → mem xs k = true) (h2 : ∀ k, b ≤ k → mem xs k = false) : 2 * xs.length ≤ (b - a) + 3 := by
  have hb : ∀ r ∈ xs, r.2 ≤ b := by
    intro r hr
    rcases Nat.lt_or_ge b r.2 with h | h
    · have h3 := hn.1 r hr
      have := mem_in hr (k := r.2 - 1) (by omega) (by omega)
      rw [h2 _ (by omega)] at this
      cases this
    · exact h
  cases xs with
  | nil => simp
  | cons r xs =>
    obtain ⟨⟨h3, h4⟩, h5⟩ := hn.head
    have hr : a ≤ r.2 := by
      rcases Nat.lt_or_ge r.2 a with h | h
      · have := h1 _ h
        rw [mem_end hn (List.mem_cons_self ..)] at this
        cases this
      · exact h
    have := norm_count xs (r.2 + 1) b hn.tail (fun x hx => by
      have := h5 x hx
      have := hb x (List.mem_cons_of_mem _ hx)
      omega)
    have := hb r (List.mem_cons_self ..)
    simp only [List.length_cons]
    omega

/-- The ranges say what came. -/
def CameIs (s : IB) (xs : List Rg) : Prop := Norm xs ∧ ∀ k, mem xs k = s.came k
theorem CameIs.zero : CameIs IB.zero [] := ⟨⟨by simp, by simp⟩, fun k => by simp [mem, IB.came, IB.zero, gt]⟩
theorem CameIs.few {s : IB} {xs : List Rg} (h : CameIs s xs) (hs : s.Ok) : xs.length ≤ 1026 := by
  have := few_of h.1 (a := s.rd) (b := s.rd + 2048) (fun k hk => by rw [h.2 k]; simp [IB.came, hk]) (fun k hk => by
    rw [h.2 k]
    have := hs.len
    simp only [IB.came, Bool.or_eq_false_iff, decide_eq_false_iff_not]
    exact ⟨by omega, by rw [gt_ge (by omega)]; rfl⟩)
  omega
theorem CameIs.put {s : IB} {xs : List Rg} (h : CameIs s xs) {off : Nat} {d : List Nat} {f : Bool} (hd : off < off + d.length) (he : off + d.length ≤ 4611686018427387904) : CameIs (s.put off d f) (addN xs (off, off + d.length)) := by
  refine ⟨addN_norm xs (off, off + d.length) hd he h.1, fun k => ?_⟩
  have h1 : mem (addN xs (off, off + d.length)) k = (hasP k (off, off + d.length) || mem xs k) := any_addN k xs _ hd h.1
  rw [h1, h.2 k]
  simp only [IB.came, IB.put]
  rw [gt_putN]
  by_cases hk : k < s.rd
  · simp [hk]
  · have e : s.rd + (k - s.rd) = k := by omega
    rw [e]
    by_cases hg : (gt s.L (k - s.rd)).isSome
    · simp [hg]
    · rw [if_neg hg]
      simp only [Bool.not_eq_true] at hg
      rw [hg]
      by_cases h2 : off ≤ k
      · rw [if_pos h2]
        by_cases h3 : k < off + d.length
        · rw [List.getElem?_eq_getElem (by omega)]
          simp [hasP, h2, h3]
        · rw [List.getElem?_eq_none (by omega)]
          simp [hasP, hk]
          omega
      · rw [if_neg h2]
        simp [hasP, hk]
        omega
theorem CameIs.put_nil {s : IB} {xs : List Rg} (h : CameIs s xs) {off : Nat} {f : Bool} : CameIs (s.put off [] f) xs := ⟨h.1, fun k => by rw [h.2 k]; simp [IB.came, IB.put, putN_nil]⟩
theorem came_take {s : IB} {n : Nat} (_hn : n ≤ rdy s.L) (k : Nat) : (s.take n).came k = (decide (k < s.rd + n) || s.came k) := by
  simp only [IB.came, IB.take]
  by_cases h1 : k < s.rd + n
  · simp [h1]
  · have e : n + (k - (s.rd + n)) = k - s.rd := by omega
    have h2 : ¬ k < s.rd := by omega
    rw [gt_drop, e]
    simp [h1, h2]
theorem CameIs.take {s : IB} {xs : List Rg} (h : CameIs s xs) {n : Nat} (hn : n ≤ rdy s.L) (hp : 0 < s.rd + n) (hb : s.rd + n ≤ 4611686018427387904) : CameIs (s.take n) (addN xs (0, s.rd + n)) := by
  refine ⟨addN_norm xs (0, s.rd + n) hp hb h.1, fun k => ?_⟩
  have h1 : mem (addN xs (0, s.rd + n)) k = (hasP k (0, s.rd + n) || mem xs k) := any_addN k xs _ hp h.1
  rw [h1, h.2 k, came_take hn]
  simp [hasP]
theorem CameIs.take_zero {s : IB} {xs : List Rg} (h : CameIs s xs) : CameIs (s.take 0) xs := ⟨h.1, fun k => by rw [h.2 k, came_take (by omega)]; simp [IB.came]⟩
/-- Where the bytes that are there end. -/
def readyOf (xs : List Rg) (rd : Nat) : Nat := match xs.find? (hasP rd) with | some r => r.2 | none => rd
theorem CameIs.ready {s : IB} {xs : List Rg} (h : CameIs s xs) : readyOf xs s.rd = s.rd + rdy s.L := by
  unfold readyOf
  cases hf : xs.find? (hasP s.rd) with
  | none =>
    have : mem xs s.rd = false := by
      unfold mem
      rw [List.any_eq_false]
      intro r hr
      have := List.find?_eq_none.1 hf r hr
      exact this
    rw [h.2] at this
    simp [IB.came] at this
    have e := rdy_is (L := s.L) (n := 0) (by intro j hj; omega) this
    simp only
    omega
  | some r =>
    have hr := List.mem_of_find?_eq_some hf
    have hp : hasP s.rd r = true := List.find?_some hf
    simp [hasP] at hp
    have e := rdy_is (L := s.L) (n := r.2 - s.rd) (by
      intro j hj
      have := mem_in hr (k := s.rd + j) (by omega) (by omega)
      rw [h.2] at this
      simp [IB.came] at this
      rcases this with h' | h'
      · omega
      · exact h') (by
      have := mem_end h.1 hr
      rw [h.2] at this
      simp [IB.came] at this
      simpa using this.2)
    simp only
    omega
end Go.Proofs.Ytebiebcpdjipjaa
