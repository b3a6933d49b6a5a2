/- DERIVED. Walk of bits' Size and PutVar: a number in 1, 2, 4, 8 bytes. -/
import Derived.StillTailTactics
import Derived.Laws.Bits64b
import Derived.Deep.DeepCutAuto
import Derived.Laws.Rows
import Derived.OwnWalk
import Derived.Deep.CutBlock
import Derived.Deep.DeepMust
import Derived.Deep.RegionHeld3
import Derived.Deep.RegionWith
import Derived.Lib.Overlaps
import Derived.Test.YtncfbaabhceeoaaQK3
import Derived.Test.YtncfbaabhceeoaaQK4
import Derived.Test.YtncfbaabhceeoaaQK5
import Derived.Test.YtncfbaabhceeoaaQK6
import Derived.Test.YtncfbaabhceeoaaQK11
set_option linter.all false
namespace Go.Proofs.Ytncfbaabhceeoaa
open Go.RowKit

def vsize (n : Nat) : Nat := if n < 64 then 1 else if n < 16384 then 2 else if n < 1073741824 then 4 else if n ≤ 4611686018427387903 then 8 else 0
def rawN (n k : Nat) : List Nat := (List.range k).map (fun j => n / 2 ^ (8 * (k - 1 - j)) % 256)
def vlog (k : Nat) : Nat := if k = 1 then 0 else if k = 2 then 1 else if k = 4 then 2 else 3
/-- The first byte has so much more. -/
def bump (a : Nat) : List Nat → List Nat
  | [] => []
  | b :: l => (b + 64 * a) :: l
def varB (n : Nat) : List Nat := bump (vlog (vsize n)) (rawN n (vsize n))
theorem vsize_le (n : Nat) : vsize n ≤ 8 := by
  unfold vsize
  repeat' split
  all_goals omega
theorem rawN_len (n k : Nat) : (rawN n k).length = k := by simp [rawN]
theorem bump_len (a : Nat) (l : List Nat) : (bump a l).length = l.length := by cases l <;> rfl
theorem varB_len (n : Nat) : (varB n).length = vsize n := by rw [varB, bump_len, rawN_len]
set_option maxRecDepth 100000 in
theorem vsize_q (n : Nat) (w : World) (hn : n < 18446744073709551616) : Calls Try.prog 104 #[.int .u64 n] w fun e w' => e = .returned (.int .i64 (vsize n)) ∧ w' = w := by
  obtain ⟨z, hz⟩ : ∃ z : Int, (n : Int) = z := ⟨_, rfl⟩
  obtain ⟨k, hk⟩ : ∃ k, vsize n = k := ⟨_, rfl⟩
  have hk2 : (z < 64 ∧ k = 1) ∨ (¬ z < 64 ∧ z < 16384 ∧ k = 2) ∨ (¬ z < 64 ∧ ¬ z < 16384 ∧ z < 1073741824 ∧ k = 4) ∨ (¬ z < 64 ∧ ¬ z < 16384 ∧ ¬ z < 1073741824 ∧ z ≤ 4611686018427387903 ∧ k = 8) ∨ (¬ z < 64 ∧ ¬ z < 16384 ∧ ¬ z < 1073741824 ∧ ¬ z ≤ 4611686018427387903 ∧ k = 0) := by
    unfold vsize at hk
    subst hz hk
    repeat' split
    all_goals omega
  rw [hz, hk]
  clear hz hk hn
  rcases hk2 with ⟨h1, rfl⟩ | ⟨h1, h2, rfl⟩ | ⟨h1, h2, h3, rfl⟩ | ⟨h1, h2, h3, h4, rfl⟩ | ⟨h1, h2, h3, h4, rfl⟩
  all_goals
    go_enter Try.func104, Try.ntmps104
    go_wp2_with fail
    go_ret
    exact ⟨rfl, rfl⟩
theorem vsize_first {n m : Nat} (h : vsize n = m) (h0 : ¬ m = 0) : (m = 1 ∨ m = 2 ∨ m = 4 ∨ m = 8) ∧ ∀ x, (rawN n m)[0]? = some x → x < 64 := by
  have hq : (n < 64 ∧ m = 1) ∨ (n < 16384 ∧ m = 2) ∨ (n < 1073741824 ∧ m = 4) ∨ (n < 4611686018427387904 ∧ m = 8) := by
    unfold vsize at h
    split at h
    · exact .inl ⟨by assumption, h.symm⟩
    · split at h
      · exact .inr (.inl ⟨by assumption, h.symm⟩)
      · split at h
        · exact .inr (.inr (.inl ⟨by assumption, h.symm⟩))
        · split at h
          · exact .inr (.inr (.inr ⟨by omega, h.symm⟩))
          · exact absurd h.symm h0
  refine ⟨by omega, fun x hx => ?_⟩
  rcases hq with ⟨q, rfl⟩ | ⟨q, rfl⟩ | ⟨q, rfl⟩ | ⟨q, rfl⟩
  all_goals
    simp only [rawN, List.getElem?_map] at hx
    rw [List.getElem?_range (by omega)] at hx
    simp only [Option.map_some, Option.some.injEq] at hx
    simp only [Nat.sub_zero, Nat.reduceSub, Nat.reduceMul, Nat.reducePow] at hx
    omega
theorem vlog_pow {m a : Nat} (h : m = 1 ∨ m = 2 ∨ m = 4 ∨ m = 8) (ha : a ≤ vlog m) : a ≤ 3 ∧ ((a < vlog m ∧ a < 3 ∧ 2 ^ a < m ∧ 2 ^ (a + 1) = 2 ^ a * 2) ∨ (a = vlog m ∧ ¬ 2 ^ a < m)) := by
  have h3 : a ≤ 3 := by
    have h1 : vlog 1 = 0 ∧ vlog 2 = 1 ∧ vlog 4 = 2 ∧ vlog 8 = 3 := by decide
    rcases h with rfl | rfl | rfl | rfl <;> omega
  refine ⟨h3, ?_⟩
  rcases (by omega : a = 0 ∨ a = 1 ∨ a = 2 ∨ a = 3) with rfl | rfl | rfl | rfl
  all_goals
    rcases h with rfl | rfl | rfl | rfl
    all_goals
      revert ha
      decide
theorem take_snoc' {l : List Nat} {m x : Nat} (h : l[m]? = some x) : l.take (m + 1) = l.take m ++ [x] := by rw [List.take_add_one, h]; rfl
set_option maxRecDepth 100000 in
set_option maxHeartbeats 1000000 in
theorem putvar_any (n : Nat) (w : World) (hn : n < 18446744073709551616) : Calls Try.prog 101 #[.slice none 0 0, .int .u64 n] w
    fun e w' => ∃ v og, e = .returned (.tuple #[v, .bool (decide (0 < vsize n))]) ∧ SlG encB 5 w' v og (varB n) ∧ (∀ g, og = some g → w.heap.size ≤ g) ∧ Below w.heap.size w w' := by
  obtain ⟨i0, hi0, hz0, hz1, hz2'⟩ := info_parts infoB
  obtain ⟨k, hk, hk8⟩ : ∃ k, vsize n = k ∧ k ≤ 8 := ⟨_, rfl, vsize_le n⟩
  have HK := Lib.hid hk
  clear hk
  go_enter Try.func101, Try.ntmps101
  go_wp2_with fail
  refine (vsize_q n _ hn).mono ?_
  rintro e w1 ⟨rfl, rfl⟩
  rw [HK.out]
  by_cases hk0 : k = 0
  · subst hk0
    go_wp2_with fail
    go_ret2
    refine ⟨_, none, by rw [HK.out]; rfl, ?_, by simp, Below.refl _ _⟩
    have : varB n = [] := List.eq_nil_of_length_eq_zero (by rw [varB_len, HK.out])
    rw [this]
    exact SlG.nil _
  · have hk0b : ((k : Int) == 0) = false := by simp; omega
    go_wp2_with fail
    go_loopw [6, 9] (fun v i wr => ∃ m og, m ≤ k ∧ i = .int .i64 ((k : Int) - 1 - m) ∧ SlG encB 5 wr v og ((rawN n k).take m) ∧ (∀ g, og = some g → w1.heap.size ≤ g) ∧ Below w1.heap.size w1 wr) (fun _ i _ => (intOf i + 1).toNat)
    case atStart => exact ⟨0, none, by omega, by simp, SlG.nil _, by simp, Below.refl _ _⟩
    case round =>
      obtain ⟨m, og, hm, rfl, hs, hg, hb⟩ := hrel
      have HS := Lib.hid hs
      have HG := Lib.hid hg
      have HB := Lib.hid hb
      clear hs hg hb
      by_cases hlt : m < k
      · obtain ⟨j, hj⟩ : ∃ j : Nat, (k : Int) - 1 - m = (j : Int) := ⟨k - 1 - m, by omega⟩
        rw [hj]
        obtain ⟨x, hx, hx2⟩ : ∃ x : Nat, (n : Int) / 2 ^ (8 * j) % 256 = (x : Int) ∧ (rawN n k)[m]? = some x := by
          refine ⟨n / 2 ^ (8 * j) % 256, by simp, ?_⟩
          unfold rawN
          rw [List.getElem?_map, List.getElem?_range hlt, Option.map_some, show k - 1 - m = j by omega]
        have htl : ((rawN n k).take m).length = m := by rw [List.length_take, rawN_len]; omega
        go_wp2_with (refine wpList_pushN encB_len encB_one Try.underlying36 hi0 hz1 hz0 zeroB rfl (.tmp 26) (.tmp 32) rfl (by exact HS.out.alloc _) [x] (by exact Src.block (alloc_at _ _) rfl) rfl rfl rfl (by simp) (by rw [htl, hz2']; simp; omega) (by rw [htl]; simp; omega) ?_)
        intro W1 v1 og1 hs1 ho1 hu1
        have hb0 := HB.out.size
        have HN1 := Lib.hid (show SlG encB 5 W1 v1 og1 ((rawN n k).take (m + 1)) ∧ (∀ g, og1 = some g → w1.heap.size ≤ g) ∧ Below w1.heap.size w1 W1 from
          ⟨by rw [(take_snoc' hx2)]; exact hs1, og_new HG.out (by omega) ho1, Upd.belowOf (HB.out.alloc hb0 _) hu1 (fun g hg q => by have := HG.out g q; omega)⟩)
        clear hs1 ho1 hu1
        go_wp2
        go_roundw
        case rel => exact ⟨m + 1, og1, by omega, by go_num, HN1.out⟩
        case measure => (simp [intOf])
      · obtain rfl : m = k := by omega
        have hk4 := vsize_first HK.out hk0
        have hmi : (m : Int) - 1 - m = -1 := by omega
        rw [hmi]
        have HS0 := Lib.hid (show SlG encB 5 wr u6 og (bump 0 (rawN n m)) by
          have := HS.out
          rw [List.take_of_length_le (by rw [rawN_len]; omega)] at this
          cases h : rawN n m with
          | nil => rw [h] at this; exact this
          | cons a l => rw [h] at this; exact this)
        clear HS
        go_wp2_with fail
        go_loopw [10] (fun i w2 => ∃ a : Nat, a ≤ vlog m ∧ i = .int .i64 (2 ^ a : Nat) ∧ SlG encB 5 w2 u6 og (bump a (rawN n m)) ∧ Below w1.heap.size w1 w2) (fun i _ => m - (intOf i).toNat)
        case atStart => exact ⟨0, by omega, rfl, HS0.out, HB.out⟩
        case round =>
          obtain ⟨a, ha, rfl, hs, hb⟩ := hrel
          obtain ⟨h3, hz2⟩ := vlog_pow hk4.1 ha
          obtain ⟨z, hz, hz8, hz1'⟩ : ∃ z : Nat, 2 ^ a = z ∧ z ≤ 8 ∧ 1 ≤ z := ⟨_, rfl, Nat.pow_le_pow_right (by omega) h3, Nat.one_le_two_pow⟩
          rw [hz] at hz2 ⊢
          have HB2 := Lib.hid hb
          have HS2 := Lib.hid hs
          clear hs hb HS0
          rcases hz2 with ⟨h1, ha2, h2, h3⟩ | ⟨h1, h2⟩
          · obtain ⟨b, l, hbl⟩ : ∃ b l, rawN n m = b :: l := by
              cases h : rawN n m with
              | nil => have := rawN_len n m; rw [h] at this; simp at this; omega
              | cons b l => exact ⟨b, l, rfl⟩
            have hb64 : b < 64 := hk4.2 b (by rw [hbl]; rfl)
            obtain ⟨oa, cap, rfl, hc1, hc2⟩ := HS2.out.shape
            have hlen : (bump a (rawN n m)).length = m := by rw [bump_len, rawN_len]
            rw [hlen] at hc1
            have hse := HS2.out
            rw [hlen] at hse
            obtain ⟨g, rfl, rfl, hg1, hg2, hg3⟩ := hse.el1 (f := fun x : Nat => Value.int .u8 x) (fun _ => rfl) (i := 0) (a := b + 64 * a) (by rw [hbl]; rfl)
            obtain ⟨g', e1, _, hput⟩ := hse.put (f := fun x : Nat => Value.int .u8 x) (fun _ => rfl) (i := 0) (by omega) (b + 64 * (a + 1))
            cases e1
            rw [hbl, show (bump a (b :: l)).set 0 (b + 64 * (a + 1)) = bump (a + 1) (b :: l) from rfl, ← hbl] at hput
            obtain ⟨y, hy, hy2⟩ : ∃ y : Nat, ((b + 64 * a : Nat) : Int) = (y : Int) ∧ b + 64 * (a + 1) = y + 64 := ⟨_, rfl, by omega⟩
            have hy3 : y + 64 < 256 := by omega
            rw [hy] at hg2
            rw [hy2] at hput
            have HP := Lib.hid hput
            clear hput hse HS2
            rw [hlen]
            go_wp2_with fail
            refine ⟨⟨a + 1, by omega, by rw [h3]; go_num, HP.out, HB2.out.setCell (HG.out g rfl) _⟩, ?_⟩
            show m - ((z : Int) * 2).toNat < m - (z : Int).toNat
            omega
          · go_wp2_with fail
            go_ret2
            refine ⟨_, og, by rw [HK.out, decide_eq_true (by omega : 0 < m)]; rfl, ?_, HG.out, HB2.out⟩
            rw [varB, HK.out, ← h1]
            exact HS2.out
end Go.Proofs.Ytncfbaabhceeoaa

/- DERIVED. octet's Writer: in memory; Var, vars, Byte, Raw, Text, Done. -/
namespace Go.Proofs.Ytncfbaabhceeoaa
open Go.RowKit

structure WrB (w : World) (p : Nat) (bs : List Nat) (v : Value) (og : Option Nat) : Prop where
  blk : w.heap[p]? = some (.cells #[v] 139 (0, 0))
  sl : SlG encB 5 w v og bs
  ne : og ≠ some p
def WrAt (w : World) (p : Nat) (bs : List Nat) (fp : Nat → Prop) : Prop := ∃ v og, WrB w p bs v og ∧ fp = fun j => j = p ∨ og = some j
theorem WrAt.lt {fp : Nat → Prop} {w : World} {p : Nat} {bs : List Nat} (h : WrAt w p bs fp) : fp p ∧ ∀ k, fp k → k < w.heap.size := by
  obtain ⟨v, og, h, rfl⟩ := h
  refine ⟨.inl rfl, ?_⟩
  rintro k (rfl | hk)
  · exact heap_lt h.blk
  · exact h.sl.lt k hk
theorem WrAt.keeps {F fp : Nat → Prop} {w w' : World} {p : Nat} {bs : List Nat} (h : WrAt w p bs fp) (hu : Upd F w w') (hF : ∀ k, fp k → ¬ F k) : WrAt w' p bs fp := by
  obtain ⟨v, og, h, rfl⟩ := h
  exact ⟨v, og, ⟨hu.keeps h.blk (hF p (.inl rfl)), h.sl.keeps hu (fun g hg => hF g (.inr hg)), h.ne⟩, rfl⟩
theorem WrAt.below {fp : Nat → Prop} {w w' : World} {p : Nat} {bs : List Nat} (h : WrAt w p bs fp) (hb : Below w.heap.size w w') : WrAt w' p bs fp :=
  h.keeps (Upd.below hb) (fun k hk => by have := h.lt.2 k hk; omega)
theorem WrB.app {w w1 W1 : World} {p : Nat} {bs zs : List Nat} {v v2 : Value} {og og2 : Option Nat} (h0 : Below w.heap.size w w1) (h : WrB w1 p bs v og) (hs2 : SlG encB 5 W1 v2 og2 zs)
    (ho2 : og2 = og ∨ ∃ g, og2 = some g ∧ w1.heap.size ≤ g) (hu2 : Upd (fun j => og = some j) w1 W1) :
    ∃ fp', WrAt (W1.setCell ⟨p, 0, none⟩ v2) p zs fp' ∧ Went (fun j => j = p ∨ og = some j) fp' w (W1.setCell ⟨p, 0, none⟩ v2) := by
  have hp1 := heap_lt h.blk
  have hb := hu2.keeps h.blk (fun q => h.ne q)
  have hne : og2 ≠ some p := by
    rcases ho2 with rfl | ⟨g, rfl, hg⟩
    · exact h.ne
    · intro e
      cases e
      omega
  refine ⟨_, ⟨v2, og2, ⟨(set_at hb 0 v2).trans rfl, hs2.keeps ((Upd.refl (fun j => j = p) W1).setCell ⟨p, 0, none⟩ (.inl rfl) v2) (fun g hg e => hne (by rw [hg, e])), hne⟩, rfl⟩, Went.first h0 ⟨(hu2.mono (fun j _ q => .inr q)).setCell ⟨p, 0, none⟩ (.inl (.inl rfl)) v2, ?_⟩⟩
  rintro k (rfl | hk)
  · exact .inl (.inl rfl)
  · rcases ho2 with rfl | ⟨g, rfl, hg⟩
    · exact .inl (.inr hk)
    · cases hk
      exact .inr hg
set_option maxRecDepth 100000 in
set_option maxHeartbeats 1000000 in
theorem wnew_q (w : World) : Calls Try.prog 72 #[] w fun e w' => e = .returned (.pointer (some ⟨w.heap.size, 0, none⟩)) ∧ WrAt w' w.heap.size [] (fun j => j = w.heap.size ∨ (none : Option Nat) = some j) ∧ Below w.heap.size w w' := by
  go_enter Try.func72, Try.ntmps72
  go_wp2_with fail
  go_ret
  refine ⟨rfl, ⟨.slice none 0 0, none, ⟨(alloc_at _ _).trans rfl, SlG.nil _, by simp⟩, rfl⟩, (Below.refl _ _).alloc (Nat.le_refl _) _⟩
set_option maxRecDepth 100000 in
set_option maxHeartbeats 1000000 in
theorem wvar_any (p : Nat) (bs : List Nat) (fp : Nat → Prop) (n : Nat) (w : World) (h : WrAt w p bs fp) (hn : n < 18446744073709551616) (hl : bs.length ≤ 1000000) :
    Calls Try.prog 86 #[.pointer (some ⟨p, 0, none⟩), .int .u64 n] w fun e w' => e = .returned (.bool (decide (0 < vsize n))) ∧ ∃ fp', WrAt w' p (bs ++ varB n) fp' ∧ Went fp fp' w w' := by
  obtain ⟨i0, hi0, hz0, hz1, hz2'⟩ := info_parts infoB
  obtain ⟨v, og, h, rfl⟩ := h
  have H := Lib.hid h
  clear h
  go_enter Try.func86, Try.ntmps86
  go_wp2_with fail
  refine (putvar_any n _ hn).mono ?_
  rintro e w1 ⟨v1, og1, rfl, hs1, hg1, hb1⟩
  have hvl : (varB n).length ≤ 8 := by rw [varB_len]; exact vsize_le n
  have H1 := Lib.hid (show WrB w1 p bs v og from ⟨below_keeps hb1 H.out.blk (heap_lt H.out.blk), H.out.sl.below hb1, H.out.ne⟩)
  have HS1 := Lib.hid hs1
  have HB := Lib.hid hb1
  have c0 : w1.cell? ⟨p, 0, none⟩ = some v := (cell_at H1.out.blk 0).trans rfl
  clear hs1 hg1 hb1
  go_wp2_with (refine wpList_pushV encB_len encB_one Try.underlying36 hi0 hz1 hz0 zeroB rfl (.tmp 16) (.tmp 17) rfl (by exact H1.out.sl) (by exact HS1.out.vw) rfl rfl (by rw [hz2']; omega) (by omega) ?_)
  intro W1 v2 og2 hs2 ho2 hu2
  have e1 : W1.cell? ⟨p, 0, none⟩ = some v := (cell_at (hu2.keeps H1.out.blk (fun q => H1.out.ne q)) 0).trans rfl
  have f1 := free_at (hu2.keeps H1.out.blk (fun q => H1.out.ne q)) 0
  have HF := Lib.hid (H1.out.app HB.out hs2 ho2 hu2)
  obtain ⟨oa2, cap2, rfl, _, _⟩ := hs2.shape
  obtain ⟨L2, hL2⟩ : ∃ L2, (bs ++ varB n).length = L2 := ⟨_, rfl⟩
  rw [hL2] at HF ⊢
  clear hs2 ho2 hu2 c0 hL2
  go_wp2_with fail
  go_ret
  exact ⟨rfl, HF.out⟩
set_option maxRecDepth 100000 in
set_option maxHeartbeats 1000000 in
theorem wbyte_any (p : Nat) (bs : List Nat) (fp : Nat → Prop) (c : Nat) (w : World) (h : WrAt w p bs fp) (hl : bs.length ≤ 1000000) :
    Calls Try.prog 91 #[.pointer (some ⟨p, 0, none⟩), .int .u8 c] w fun e w' => e = .returned (.tuple #[]) ∧ ∃ fp', WrAt w' p (bs ++ [c]) fp' ∧ Went fp fp' w w' := by
  obtain ⟨i0, hi0, hz0, hz1, hz2'⟩ := info_parts infoB
  obtain ⟨v, og, h, rfl⟩ := h
  have H := Lib.hid h
  have c0 : w.cell? ⟨p, 0, none⟩ = some v := (cell_at H.out.blk 0).trans rfl
  have hba := (Below.refl w.heap.size w).alloc (Nat.le_refl _) (.cells #[.int .u8 (c : Int)] 5)
  have H1 := Lib.hid (show WrB (w.alloc (.cells #[.int .u8 (c : Int)] 5)) p bs v og from ⟨below_keeps hba H.out.blk (heap_lt H.out.blk), H.out.sl.below hba, H.out.ne⟩)
  have HB := Lib.hid hba
  clear h hba
  go_enter Try.func91, Try.ntmps91
  go_wp2_with (refine wpList_pushN encB_len encB_one Try.underlying36 hi0 hz1 hz0 zeroB rfl (.tmp 8) (.tmp 10) rfl (by exact H1.out.sl) [c] (by exact Src.block (alloc_at _ _) rfl) rfl rfl rfl (by simp) (by rw [hz2']; simp; omega) (by simp; omega) ?_)
  intro W1 v2 og2 hs2 ho2 hu2
  have e1 : W1.cell? ⟨p, 0, none⟩ = some v := (cell_at (hu2.keeps H1.out.blk (fun q => H1.out.ne q)) 0).trans rfl
  have f1 := free_at (hu2.keeps H1.out.blk (fun q => H1.out.ne q)) 0
  have HF := Lib.hid (H1.out.app HB.out hs2 (ho2.imp id (fun ⟨g, q1, q2⟩ => ⟨g, q1, by simpa using q2⟩)) hu2)
  obtain ⟨oa2, cap2, rfl, _, _⟩ := hs2.shape
  obtain ⟨L2, hL2⟩ : ∃ L2, (bs ++ [c]).length = L2 := ⟨_, rfl⟩
  rw [hL2] at HF ⊢
  clear hs2 ho2 hu2 c0 hL2
  go_wp2_with fail
  refine bodyPost_end (results_none rfl _ _ _) rfl ?_
  exact ⟨rfl, HF.out⟩
set_option maxRecDepth 100000 in
set_option maxHeartbeats 1000000 in
theorem wraw_any (p : Nat) (bs : List Nat) (fp : Nat → Prop) (u : Value) (B : Nat) (zs : List Nat) (w : World) (h : WrAt w p bs fp) (hz : Vw encB w B u zs) (hl : bs.length ≤ 1000000) (hl2 : zs.length ≤ 1000000) :
    Calls Try.prog 92 #[.pointer (some ⟨p, 0, none⟩), u] w fun e w' => e = .returned (.tuple #[]) ∧ ∃ fp', WrAt w' p (bs ++ zs) fp' ∧ Went fp fp' w w' := by
  obtain ⟨i0, hi0, hz0, hz1, hz2'⟩ := info_parts infoB
  obtain ⟨v, og, h, rfl⟩ := h
  have H := Lib.hid h
  have HZ := Lib.hid hz
  have c0 : w.cell? ⟨p, 0, none⟩ = some v := (cell_at H.out.blk 0).trans rfl
  clear h hz
  go_enter Try.func92, Try.ntmps92
  go_wp2_with (refine wpList_pushV encB_len encB_one Try.underlying36 hi0 hz1 hz0 zeroB rfl (.tmp 8) (.tmp 9) rfl (by exact H.out.sl) (by exact HZ.out) rfl rfl (by rw [hz2']; omega) (by omega) ?_)
  intro W1 v2 og2 hs2 ho2 hu2
  have e1 : W1.cell? ⟨p, 0, none⟩ = some v := (cell_at (hu2.keeps H.out.blk (fun q => H.out.ne q)) 0).trans rfl
  have f1 := free_at (hu2.keeps H.out.blk (fun q => H.out.ne q)) 0
  have HF := Lib.hid (H.out.app (Below.refl _ _) hs2 ho2 hu2)
  obtain ⟨oa2, cap2, rfl, _, _⟩ := hs2.shape
  obtain ⟨L2, hL2⟩ : ∃ L2, (bs ++ zs).length = L2 := ⟨_, rfl⟩
  rw [hL2] at HF ⊢
  clear hs2 ho2 hu2 c0 hL2
  go_wp2_with fail
  refine bodyPost_end (results_none rfl _ _ _) rfl ?_
  exact ⟨rfl, HF.out⟩
end Go.Proofs.Ytncfbaabhceeoaa

/- DERIVED. octet's Text, Done; frame's vars, kind. -/
namespace Go.Proofs.Ytncfbaabhceeoaa
open Go.RowKit

theorem VwA.wentU {α : Type} {enc : α → List Value} {fp fp' : Nat → Prop} {w w' : World} {v : Value} {xs : List α} (h : VwA enc fp w v xs) (hw : Went fp fp' w w') : VwA enc fp' w' v xs := by
  have h2 := h.upd hw.upd (fun _ q => q)
  obtain ⟨oa, cap, h1, h2', h3, h4⟩ := h
  obtain ⟨oa', cap', k1, k2, k3, k4⟩ := h2
  subst h1
  cases k1
  refine ⟨_, _, rfl, h2', h3, ?_⟩
  rcases h4 with h4 | ⟨b, off, rfl, h5, h6, h7⟩
  · exact .inl h4
  · rcases k4 with k4 | ⟨b', off', e, k5, k6, k7⟩
    · exact .inl k4
    · cases e
      refine .inr ⟨b, off, rfl, k5, fun q => ?_, k7⟩
      rcases hw.new b q with x | x
      · exact h6 x
      · omega
def varsB (l : List Nat) : List Nat := l.flatMap varB
theorem varsB_len (l : List Nat) : (varsB l).length ≤ 8 * l.length := by
  unfold varsB
  induction l with
  | nil => simp
  | cons a l ih =>
    have := vsize_le a
    simp only [List.flatMap_cons, List.length_append, List.length_cons, varB_len]
    omega
set_option maxRecDepth 100000 in
set_option maxHeartbeats 1000000 in
theorem wvars_any (p : Nat) (bs : List Nat) (fp : Nat → Prop) (v : Value) (l : List Nat) (w : World) (h : WrAt w p bs fp) (hv : VwA encU fp w v l) (hl : ∀ n ∈ l, n < 18446744073709551616) (hb : bs.length ≤ 100000) (hll : l.length ≤ 1000) :
    Calls Try.prog 89 #[.pointer (some ⟨p, 0, none⟩), v] w fun e w' => e = .returned (.tuple #[]) ∧ ∃ fp', WrAt w' p (bs ++ varsB l) fp' ∧ Went fp fp' w w' := by
  obtain ⟨oa, cap, rfl, h1, h2⟩ := hv.shape
  have H := Lib.hid h
  have HV := Lib.hid hv
  generalize hn : l.length = len at *
  have HN := Lib.hid hn
  clear h hn hv
  go_enter Try.func89, Try.ntmps89
  go_wp2_with fail
  go_loopw [8] (fun i wr => ∃ (k : Nat) (fp' : Nat → Prop), i = .int .i64 k ∧ k ≤ len ∧ WrAt wr p (bs ++ varsB (l.take k)) fp' ∧ Went fp fp' w wr) (fun i _ => len - (intOf i).toNat)
  case atStart => exact ⟨0, fp, rfl, by omega, by simpa [varsB] using H.out, Went.refl _ _⟩
  case round =>
    obtain ⟨k, fp', rfl, hk, hw, hwt⟩ := hrel
    have HW := Lib.hid hw
    have HT := Lib.hid hwt
    clear hw hwt
    by_cases hlt : k < len
    · obtain ⟨x, hx⟩ : ∃ x, l[k]? = some x := ⟨_, List.getElem?_eq_getElem (by rw [HN.out]; exact hlt)⟩
      obtain ⟨b, off, rfl, _, c0⟩ := (HV.out.wentU HT.out).vw.num64 hx
      have hx2 := hl x (List.mem_of_getElem? hx)
      have hst : varsB (l.take (k + 1)) = varsB (l.take k) ++ varB x := by
        rw [List.take_add_one, hx, varsB, varsB, List.flatMap_append]
        simp
      have hlv := varsB_len (l.take k)
      rw [List.length_take] at hlv
      have HST := Lib.hid hst
      clear hx hst
      go_wp2_with fail
      refine (wvar_any p _ fp' x _ (by exact HW.out) hx2 (by rw [List.length_append]; omega)).mono ?_
      rintro e w3 ⟨rfl, fp3, hw3, ht3⟩
      have HW3 := Lib.hid hw3
      have HT3 := Lib.hid ht3
      clear hw3 ht3 c0
      go_wp2_with fail
      go_roundw
      case rel => exact ⟨k + 1, fp3, by go_num, by omega, by rw [HST.out, ← List.append_assoc]; exact HW3.out, HT.out.trans HT3.out⟩
      case measure => simp [intOf]; omega
    · obtain rfl : k = len := by omega
      have hlk : l.take k = l := List.take_of_length_le (by rw [HN.out]; omega)
      go_wp2_with fail
      refine bodyPost_end (results_none rfl _ _ _) rfl ?_
      rw [hlk] at HW
      exact ⟨rfl, fp', HW.out, HT.out⟩
set_option maxRecDepth 100000 in
set_option maxHeartbeats 1000000 in
theorem wtext_any (p : Nat) (bs : List Nat) (fp : Nat → Prop) (u : Value) (zs : List Nat) (w : World) (h : WrAt w p bs fp) (hz : VwA encB fp w u zs) (hl : bs.length ≤ 100000) (hl2 : zs.length ≤ 100000) :
    Calls Try.prog 90 #[.pointer (some ⟨p, 0, none⟩), u] w fun e w' => e = .returned (.tuple #[]) ∧ ∃ fp', WrAt w' p (bs ++ varB zs.length ++ zs) fp' ∧ Went fp fp' w w' := by
  obtain ⟨oa, cap, rfl, h1, h2⟩ := hz.shape
  have H := Lib.hid h
  have HZ := Lib.hid hz
  clear h hz
  have hvl : (varB zs.length).length ≤ 8 := by rw [varB_len]; exact vsize_le _
  obtain ⟨len, hlen⟩ : ∃ len, zs.length = len := ⟨_, rfl⟩
  rw [hlen] at h1 hl2 hvl ⊢
  rw [hlen] at HZ
  have HLN := Lib.hid hlen
  clear hlen
  go_enter Try.func90, Try.ntmps90
  go_wp2_with fail
  refine (wvar_any p bs fp len _ (by exact H.out) (by omega) (by omega)).mono ?_
  rintro e w1 ⟨rfl, fp1, hw1, ht1⟩
  have HW1 := Lib.hid hw1
  have HT1 := Lib.hid ht1
  clear hw1 ht1
  go_wp2_with fail
  refine (wraw_any p _ fp1 _ _ zs _ (by exact HW1.out) (by exact (HZ.out.wentU HT1.out).vw) (by rw [List.length_append]; omega) (by rw [HLN.out]; omega)).mono ?_
  rintro e w2 ⟨rfl, fp2, hw2, ht2⟩
  have HW2 := Lib.hid hw2
  have HT2 := Lib.hid (HT1.out.trans ht2)
  clear hw2 ht2
  go_wp2_with fail
  refine bodyPost_end (results_none rfl _ _ _) rfl ?_
  exact ⟨rfl, fp2, HW2.out, HT2.out⟩
end Go.Proofs.Ytncfbaabhceeoaa

/- DERIVED. Walk of frame's in: may all these numbers be written? -/
namespace Go.Proofs.Ytncfbaabhceeoaa
open Go.RowKit

def overB (n : Nat) : Bool := decide (4611686018427387903 < n)
set_option maxRecDepth 100000 in
theorem in1_fn (n : Nat) (w : World) (hn : n < 18446744073709551616) : Calls Try.prog 100 #[.int .u64 n] w fun e w' => e = .returned (.bool (overB n)) ∧ w' = w := by
  obtain ⟨z, hz, hz2⟩ : ∃ z : Int, (n : Int) = z ∧ overB n = decide (4611686018427387903 < z) := ⟨_, rfl, by unfold overB; exact decide_eq_decide.2 (by omega)⟩
  rw [hz, hz2]
  clear hz2
  go_enter Try.func100, Try.ntmps100
  go_wp2_with fail
  go_ret
  exact ⟨rfl, rfl⟩
set_option maxRecDepth 100000 in
set_option maxHeartbeats 1000000 in
theorem index_in (v : Value) (l : List Nat) (B : Nat) (w : World) (h : Vw encU w B v l) (hl : ∀ n ∈ l, n < 18446744073709551616) :
    Calls Try.prog 103 #[v, .func (.func 100) #[] #[]] w
      fun e w' => ∃ z : Int, e = .returned (.int .i64 z) ∧ (decide (0 ≤ z) = l.any overB) ∧ w' = w := by
  obtain ⟨oa, cap, rfl, h1, h2⟩ := h.shape
  have H := Lib.hid h
  generalize hn : l.length = len at *
  have HN := Lib.hid hn
  clear h hn
  go_enter Try.func103, Try.ntmps103
  go_wp2_with fail
  go_loopw [8] (fun i wr => ∃ k : Nat, i = .int .i64 k ∧ k ≤ len ∧ (l.take k).any overB = false ∧ wr = w) (fun i _ => len - (intOf i).toNat)
  case atStart => exact ⟨0, rfl, by omega, rfl, rfl⟩
  case round =>
    obtain ⟨k, rfl, hk, ht, rfl⟩ := hrel
    have HT := Lib.hid ht
    clear ht
    by_cases hlt : k < len
    · obtain ⟨x, hx⟩ : ∃ x, l[k]? = some x := ⟨_, List.getElem?_eq_getElem (by rw [HN.out]; exact hlt)⟩
      obtain ⟨b, off, rfl, _, c0⟩ := H.out.num64 hx
      have hx2 := hl x (List.mem_of_getElem? hx)
      have hst : (l.take (k + 1)).any overB = overB x := by
        rw [List.take_add_one, hx, List.any_append, HT.out]
        simp
      have HST := Lib.hid hst
      have HX := Lib.hid hx
      clear hx hst
      cases hp : overB x
      all_goals go_wp2_with fail
      all_goals (refine (in1_fn x _ hx2).mono ?_; rintro e w' ⟨rfl, rfl⟩)
      · rw [hp]
        go_wp2_with fail
        go_roundw
        case rel => exact ⟨k + 1, by go_num, by omega, by rw [HST.out, hp], trivial⟩
        case measure => simp [intOf]; omega
      · rw [hp]
        go_wp2_with fail
        go_ret
        refine ⟨k, rfl, ?_, rfl⟩
        have h1 : l.any overB = true := List.any_eq_true.2 ⟨x, List.mem_of_getElem? HX.out, hp⟩
        rw [h1]
        simp
    · go_wp2_with fail
      go_ret
      refine ⟨-1, rfl, ?_, rfl⟩
      have := HT.out
      rw [List.take_of_length_le (by rw [HN.out]; omega)] at this
      rw [this]
      rfl
set_option maxRecDepth 100000 in
set_option maxHeartbeats 1000000 in
theorem contains_in (v : Value) (l : List Nat) (B : Nat) (w : World) (h : Vw encU w B v l) (hl : ∀ n ∈ l, n < 18446744073709551616) :
    Calls Try.prog 99 #[v, .func (.func 100) #[] #[]] w fun e w' => e = .returned (.bool (l.any overB)) ∧ w' = w := by
  have H := Lib.hid h
  have HL := Lib.hid hl
  obtain ⟨oa, cap, rfl, h1, h2⟩ := h.shape
  clear h hl
  go_enter Try.func99, Try.ntmps99
  go_wp2_with fail
  refine (index_in _ l B _ (by exact H.out) HL.out).mono ?_
  rintro e w1 ⟨z, rfl, hz, rfl⟩
  have HZ := Lib.hid hz
  clear hz
  go_wp2_with fail
  go_ret
  refine ⟨?_, rfl⟩
  rw [← HZ.out]
  rfl
/-- May all these numbers be written? -/
def inB (l : List Nat) : Bool := !(l.any overB)
set_option maxRecDepth 100000 in
set_option maxHeartbeats 1000000 in
theorem in_any (v : Value) (l : List Nat) (B : Nat) (w : World) (h : Vw encU w B v l) (hl : ∀ n ∈ l, n < 18446744073709551616) :
    Calls Try.prog 84 #[v] w fun e w' => e = .returned (.bool (inB l)) ∧ w' = w := by
  have H := Lib.hid h
  have HL := Lib.hid hl
  obtain ⟨oa, cap, rfl, h1, h2⟩ := h.shape
  clear h hl
  go_enter Try.func84, Try.ntmps84
  go_wp2_with fail
  refine (contains_in _ l B _ (by exact H.out) HL.out).mono ?_
  rintro e w1 ⟨rfl, rfl⟩
  obtain ⟨o, ho⟩ : ∃ o, l.any overB = o := ⟨_, rfl⟩
  have HO := Lib.hid (show inB l = !o by unfold inB; rw [ho])
  rw [ho]
  clear ho
  go_wp2_with fail
  go_ret
  refine ⟨?_, rfl⟩
  rw [HO.out]
  rfl
end Go.Proofs.Ytncfbaabhceeoaa

/- DERIVED. frame's kind, put (of the kinds with numbers, and of a Stream). -/
namespace Go.Proofs.Ytncfbaabhceeoaa
open Go.RowKit

def kindN (f : Fr) : Nat := if f.kd = 8 then 10 + (if 0 < f.off then 4 else 0) + (if f.fin then 1 else 0) else f.kd.toNat
theorem or82 : bits .or .u64 8 2 = 10 := by decide
theorem or104 : bits .or .u64 10 4 = 14 := by decide
theorem or101 : bits .or .u64 10 1 = 11 := by decide
theorem or141 : bits .or .u64 14 1 = 15 := by decide
theorem kindN_lt {f : Fr} (h : 0 ≤ f.kd ∧ f.kd ≤ 30) : kindN f ≤ 30 := by
  unfold kindN
  split
  · split <;> split <;> omega
  · omega
set_option maxRecDepth 100000 in
set_option maxHeartbeats 1000000 in
theorem kind_q (f : Fr) (w : World) (hk : 0 ≤ f.kd ∧ f.kd ≤ 30) : Calls Try.prog 87 #[.agg (encF f).toArray] w fun e w' => e = .returned (.int .u64 (kindN f)) ∧ Below w.heap.size w w' := by
  obtain ⟨kd, sid, off, vd, fin, lim, code, fnl, seq, dly, vr, c0, c1, c2, c3, c4, c5, c6, c7⟩ := f
  simp only at hk
  simp only [encF]
  have o1 := or82
  have o2 := or104
  have o3 := or101
  have o4 := or141
  by_cases h8 : kd = 8
  · subst h8
    by_cases ho : off = 0
    · subst ho
      cases fin
      · obtain ⟨k, hk, hk2⟩ : ∃ k, kindN ⟨8, sid, 0, vd, false, lim, code, fnl, seq, dly, vr, c0, c1, c2, c3, c4, c5, c6, c7⟩ = k ∧ k = 10 := ⟨_, rfl, rfl⟩
        rw [hk]
        subst hk2
        go_enter Try.func87, Try.ntmps87
        go_wp2_with fail
        go_ret
        exact ⟨rfl, (Below.refl _ _).alloc (Nat.le_refl _) _⟩
      · obtain ⟨k, hk, hk2⟩ : ∃ k, kindN ⟨8, sid, 0, vd, true, lim, code, fnl, seq, dly, vr, c0, c1, c2, c3, c4, c5, c6, c7⟩ = k ∧ k = 11 := ⟨_, rfl, rfl⟩
        rw [hk]
        subst hk2
        go_enter Try.func87, Try.ntmps87
        go_wp2_with fail
        go_ret
        exact ⟨rfl, (Below.refl _ _).alloc (Nat.le_refl _) _⟩
    · have hop : 0 < off := by omega
      cases fin
      · obtain ⟨k, hk, hk2⟩ : ∃ k, kindN ⟨8, sid, off, vd, false, lim, code, fnl, seq, dly, vr, c0, c1, c2, c3, c4, c5, c6, c7⟩ = k ∧ k = 14 := ⟨_, rfl, by unfold kindN; rw [if_pos rfl, if_pos hop]; rfl⟩
        rw [hk]
        subst hk2
        go_enter Try.func87, Try.ntmps87
        go_wp2_with fail
        go_ret
        exact ⟨rfl, (Below.refl _ _).alloc (Nat.le_refl _) _⟩
      · obtain ⟨k, hk, hk2⟩ : ∃ k, kindN ⟨8, sid, off, vd, true, lim, code, fnl, seq, dly, vr, c0, c1, c2, c3, c4, c5, c6, c7⟩ = k ∧ k = 15 := ⟨_, rfl, by unfold kindN; rw [if_pos rfl, if_pos hop]; rfl⟩
        rw [hk]
        subst hk2
        go_enter Try.func87, Try.ntmps87
        go_wp2_with fail
        go_ret
        exact ⟨rfl, (Below.refl _ _).alloc (Nat.le_refl _) _⟩
  · have hkb : (kd == 8) = false := by simpa using h8
    obtain ⟨k, hk1, hk2⟩ : ∃ k : Nat, kindN ⟨kd, sid, off, vd, fin, lim, code, fnl, seq, dly, vr, c0, c1, c2, c3, c4, c5, c6, c7⟩ = k ∧ kd = (k : Int) := ⟨kd.toNat, by unfold kindN; rw [if_neg h8], by omega⟩
    rw [hk1]
    subst hk2
    have hkw : IntKind.u64.wrap (k : Int) = k := IntWalk.u64_in _ (by omega)
    go_enter Try.func87, Try.ntmps87
    go_wp2_with fail
    go_ret
    exact ⟨rfl, (Below.refl _ _).alloc (Nat.le_refl _) _⟩
end Go.Proofs.Ytncfbaabhceeoaa
