/- DERIVED. octet's Writer: in memory; Var, vars, Byte, Raw, Text, Done. -/
import Derived.Laws.BytesArg
import Derived.Deep.DeepCutAuto
import Derived.Laws.Bits64b
import Derived.Deep.RegionWith
import Derived.Deep.CutBlock
import Derived.Deep.RegionHeld3
import Derived.Test.YtebiebcpdjipjaaQ2
import Derived.Test.YtebiebcpdjipjaaQ3
import Derived.Test.YtebiebcpdjipjaaQ4
namespace Go.Proofs.Ytebiebcpdjipjaa
open Go.RowKit

structure WrB (w : World) (p : Nat) (bs : List Nat) (v : Value) (og : Option Nat) : Prop where
  blk : w.heap[p]? = some (.cells #[v] 118 (0, 0))
  sl : SlG encB 5 w v og bs
  ne : og ≠ some p
def WrAt (w : World) (p : Nat) (bs : List Nat) (fp : Nat → Prop) : Prop := ∃ v og, WrB w p bs v og ∧ fp = fun j => j = p ∨ og = some j
theorem WrAt.lt {fp : Nat → Prop} {w : World} {p : Nat} {bs : List Nat} (h : WrAt w p bs fp) : fp p ∧ ∀ k, fp k → k < w.heap.size := by
  obtain ⟨v, og, h, rfl⟩ := h
  refine ⟨.inl rfl, ?_⟩
  rintro k (rfl | hk)
  · exact heap_lt h.blk
  · exact h.sl.lt k hk
theorem WrAt.keeps {F fp : Nat → Prop} {w w' : World} {p : Nat} {bs : List Nat} (h : WrAt w p bs fp) (hu : Upd F w w') (hF : ∀ k, fp k → ¬ F k) : WrAt w' p bs fp := by
  obtain ⟨v, og, h, rfl⟩ := h
  exact ⟨v, og, ⟨hu.keeps h.blk (hF p (.inl rfl)), h.sl.keeps hu (fun g hg => hF g (.inr hg)), h.ne⟩, rfl⟩
theorem WrAt.below {fp : Nat → Prop} {w w' : World} {p : Nat} {bs : List Nat} (h : WrAt w p bs fp) (hb : Below w.heap.size w w') : WrAt w' p bs fp :=
  h.keeps (Upd.below hb) (fun k hk => by have := h.lt.2 k hk; omega)
theorem WrB.app {w w1 W1 : World} {p : Nat} {bs zs : List Nat} {v v2 : Value} {og og2 : Option Nat} (h0 : Below w.heap.size w w1) (h : WrB w1 p bs v og) (hs2 : SlG encB 5 W1 v2 og2 zs)
    (ho2 : og2 = og ∨ ∃ g, og2 = some g ∧ w1.heap.size ≤ g) (hu2 : Upd (fun j => og = some j) w1 W1) :
    ∃ fp', WrAt (W1.setCell ⟨p, 0, none⟩ v2) p zs fp' ∧ Went (fun j => j = p ∨ og = some j) fp' w (W1.setCell ⟨p, 0, none⟩ v2) := by
  have hp1 := heap_lt h.blk
  have hb := hu2.keeps h.blk (fun q => h.ne q)
  have hne : og2 ≠ some p := by
    rcases ho2 with rfl | ⟨g, rfl, hg⟩
    · exact h.ne
    · intro e
      cases e
      omega
  refine ⟨_, ⟨v2, og2, ⟨(set_at hb 0 v2).trans rfl, hs2.keeps ((Upd.refl (fun j => j = p) W1).setCell ⟨p, 0, none⟩ (.inl rfl) v2) (fun g hg e => hne (by rw [hg, e])), hne⟩, rfl⟩, Went.first h0 ⟨(hu2.mono (fun j _ q => .inr q)).setCell ⟨p, 0, none⟩ (.inl (.inl rfl)) v2, ?_⟩⟩
  rintro k (rfl | hk)
  · exact .inl (.inl rfl)
  · rcases ho2 with rfl | ⟨g, rfl, hg⟩
    · exact .inl (.inr hk)
    · cases hk
      exact .inr hg
set_option maxRecDepth 100000 in
set_option maxHeartbeats 1000000 in
theorem wnew_q (w : World) : Calls Try.prog 63 #[] w fun e w' => e = .returned (.pointer (some ⟨w.heap.size, 0, none⟩)) ∧ WrAt w' w.heap.size [] (fun j => j = w.heap.size ∨ (none : Option Nat) = some j) ∧ Below w.heap.size w w' := by
  go_enter Try.func63, Try.ntmps63
  go_wp2_with fail
  go_ret
  refine ⟨rfl, ⟨.slice none 0 0, none, ⟨(alloc_at _ _).trans rfl, SlG.nil _, by simp⟩, rfl⟩, (Below.refl _ _).alloc (Nat.le_refl _) _⟩
set_option maxRecDepth 100000 in
set_option maxHeartbeats 1000000 in
theorem wvar_any (p : Nat) (bs : List Nat) (fp : Nat → Prop) (n : Nat) (w : World) (h : WrAt w p bs fp) (hn : n < 18446744073709551616) (hl : bs.length ≤ 1000000) :
    Calls Try.prog 82 #[.pointer (some ⟨p, 0, none⟩), .int .u64 n] w fun e w' => e = .returned (.bool (decide (0 < vsize n))) ∧ ∃ fp', WrAt w' p (bs ++ varB n) fp' ∧ Went fp fp' w w' := by
  obtain ⟨i0, hi0, hz0, hz1, hz2'⟩ := info_parts infoB
  obtain ⟨v, og, h, rfl⟩ := h
  have H := Lib.hid h
  clear h
  go_enter Try.func82, Try.ntmps82
  go_wp2_with fail
  refine (putvar_any n _ hn).mono ?_
  rintro e w1 ⟨v1, og1, rfl, hs1, hg1, hb1⟩
  have hvl : (varB n).length ≤ 8 := by rw [varB_len]; exact vsize_le n
  have H1 := Lib.hid (show WrB w1 p bs v og from ⟨below_keeps hb1 H.out.blk (heap_lt H.out.blk), H.out.sl.below hb1, H.out.ne⟩)
  have HS1 := Lib.hid hs1
  have HB := Lib.hid hb1
  have c0 : w1.cell? ⟨p, 0, none⟩ = some v := (cell_at H1.out.blk 0).trans rfl
  clear hs1 hg1 hb1
  go_wp2_with (refine wpList_pushV encB_len encB_one Try.underlying22 hi0 hz1 hz0 zeroB rfl (.tmp 16) (.tmp 17) rfl (by exact H1.out.sl) (by exact HS1.out.vw) rfl rfl (by rw [hz2']; omega) (by omega) ?_)
  intro W1 v2 og2 hs2 ho2 hu2
  have e1 : W1.cell? ⟨p, 0, none⟩ = some v := (cell_at (hu2.keeps H1.out.blk (fun q => H1.out.ne q)) 0).trans rfl
  have f1 := free_at (hu2.keeps H1.out.blk (fun q => H1.out.ne q)) 0
  have HF := Lib.hid (H1.out.app HB.out hs2 ho2 hu2)
  obtain ⟨oa2, cap2, rfl, _, _⟩ := hs2.shape
  obtain ⟨L2, hL2⟩ : ∃ L2, (bs ++ varB n).length = L2 := ⟨_, rfl⟩
  rw [hL2] at HF ⊢
  clear hs2 ho2 hu2 c0 hL2
  go_wp2_with fail
  go_ret
  exact ⟨rfl, HF.out⟩
set_option maxRecDepth 100000 in
set_option maxHeartbeats 1000000 in
theorem wbyte_any (p : Nat) (bs : List Nat) (fp : Nat → Prop) (c : Nat) (w : World) (h : WrAt w p bs fp) (hl : bs.length ≤ 1000000) :
    Calls Try.prog 87 #[.pointer (some ⟨p, 0, none⟩), .int .u8 c] w fun e w' => e = .returned (.tuple #[]) ∧ ∃ fp', WrAt w' p (bs ++ [c]) fp' ∧ Went fp fp' w w' := by
  obtain ⟨i0, hi0, hz0, hz1, hz2'⟩ := info_parts infoB
  obtain ⟨v, og, h, rfl⟩ := h
  have H := Lib.hid h
  have c0 : w.cell? ⟨p, 0, none⟩ = some v := (cell_at H.out.blk 0).trans rfl
  have hba := (Below.refl w.heap.size w).alloc (Nat.le_refl _) (.cells #[.int .u8 (c : Int)] 5)
  have H1 := Lib.hid (show WrB (w.alloc (.cells #[.int .u8 (c : Int)] 5)) p bs v og from ⟨below_keeps hba H.out.blk (heap_lt H.out.blk), H.out.sl.below hba, H.out.ne⟩)
  have HB := Lib.hid hba
  clear h hba
  go_enter Try.func87, Try.ntmps87
  go_wp2_with (refine wpList_pushN encB_len encB_one Try.underlying22 hi0 hz1 hz0 zeroB rfl (.tmp 8) (.tmp 10) rfl (by exact H1.out.sl) [c] (by exact Src.block (alloc_at _ _) rfl) rfl rfl rfl (by simp) (by rw [hz2']; simp; omega) (by simp; omega) ?_)
  intro W1 v2 og2 hs2 ho2 hu2
  have e1 : W1.cell? ⟨p, 0, none⟩ = some v := (cell_at (hu2.keeps H1.out.blk (fun q => H1.out.ne q)) 0).trans rfl
  have f1 := free_at (hu2.keeps H1.out.blk (fun q => H1.out.ne q)) 0
  have HF := Lib.hid (H1.out.app HB.out hs2 (ho2.imp id (fun ⟨g, q1, q2⟩ => ⟨g, q1, by simpa using q2⟩)) hu2)
  obtain ⟨oa2, cap2, rfl, _, _⟩ := hs2.shape
  obtain ⟨L2, hL2⟩ : ∃ L2, (bs ++ [c]).length = L2 := ⟨_, rfl⟩
  rw [hL2] at HF ⊢
  clear hs2 ho2 hu2 c0 hL2
  go_wp2_with fail
  refine bodyPost_end (results_none rfl _ _ _) rfl ?_
  exact ⟨rfl, HF.out⟩
set_option maxRecDepth 100000 in
set_option maxHeartbeats 1000000 in
theorem wraw_any (p : Nat) (bs : List Nat) (fp : Nat → Prop) (u : Value) (B : Nat) (zs : List Nat) (w : World) (h : WrAt w p bs fp) (hz : Vw encB w B u zs) (hl : bs.length ≤ 1000000) (hl2 : zs.length ≤ 1000000) :
    Calls Try.prog 88 #[.pointer (some ⟨p, 0, none⟩), u] w fun e w' => e = .returned (.tuple #[]) ∧ ∃ fp', WrAt w' p (bs ++ zs) fp' ∧ Went fp fp' w w' := by
  obtain ⟨i0, hi0, hz0, hz1, hz2'⟩ := info_parts infoB
  obtain ⟨v, og, h, rfl⟩ := h
  have H := Lib.hid h
  have HZ := Lib.hid hz
  have c0 : w.cell? ⟨p, 0, none⟩ = some v := (cell_at H.out.blk 0).trans rfl
  clear h hz
  go_enter Try.func88, Try.ntmps88
  go_wp2_with (refine wpList_pushV encB_len encB_one Try.underlying22 hi0 hz1 hz0 zeroB rfl (.tmp 8) (.tmp 9) rfl (by exact H.out.sl) (by exact HZ.out) rfl rfl (by rw [hz2']; omega) (by omega) ?_)
  intro W1 v2 og2 hs2 ho2 hu2
  have e1 : W1.cell? ⟨p, 0, none⟩ = some v := (cell_at (hu2.keeps H.out.blk (fun q => H.out.ne q)) 0).trans rfl
  have f1 := free_at (hu2.keeps H.out.blk (fun q => H.out.ne q)) 0
  have HF := Lib.hid (H.out.app (Below.refl _ _) hs2 ho2 hu2)
  obtain ⟨oa2, cap2, rfl, _, _⟩ := hs2.shape
  obtain ⟨L2, hL2⟩ : ∃ L2, (bs ++ zs).length = L2 := ⟨_, rfl⟩
  rw [hL2] at HF ⊢
  clear hs2 ho2 hu2 c0 hL2
  go_wp2_with fail
  refine bodyPost_end (results_none rfl _ _ _) rfl ?_
  exact ⟨rfl, HF.out⟩
end Go.Proofs.Ytebiebcpdjipjaa

/- DERIVED. A slice of ints that is only read. -/
namespace Go.Proofs.Ytebiebcpdjipjaa
open Go.RowKit

def encN (n : Int) : List Value := [.int .i64 n]
theorem Vw.num {w : World} {B : Nat} {oa : Option Addr} {n cap : Nat} {xs : List Int} (h : Vw encN w B (.slice oa n cap) xs) {i : Nat} {x : Int} (hx : xs[i]? = some x) :
    ∃ b off, oa = some ⟨b, off, none⟩ ∧ b < B ∧ w.cell? ⟨b, off + i, none⟩ = some (.int .i64 x) := by
  obtain ⟨b, off, h1, h2, h3⟩ := h.el (k := 1) (fun _ => rfl) hx
  refine ⟨b, off, h1, h2, ?_⟩
  have := h3 0 (by omega)
  simpa [encN] using this
def encU (n : Nat) : List Value := [.int .u64 n]
theorem encU_len (n : Nat) : (encU n).length = 1 := rfl
theorem Vw.num64 {w : World} {B : Nat} {oa : Option Addr} {n cap : Nat} {xs : List Nat} (h : Vw encU w B (.slice oa n cap) xs) {i : Nat} {x : Nat} (hx : xs[i]? = some x) :
    ∃ b off, oa = some ⟨b, off, none⟩ ∧ b < B ∧ w.cell? ⟨b, off + i, none⟩ = some (.int .u64 x) := by
  obtain ⟨b, off, h1, h2, h3⟩ := h.el (k := 1) (fun _ => rfl) hx
  refine ⟨b, off, h1, h2, ?_⟩
  have := h3 0 (by omega)
  simpa [encU] using this
end Go.Proofs.Ytebiebcpdjipjaa

/- DERIVED. slices.Clone of bytes. -/
namespace Go.Proofs.Ytebiebcpdjipjaa
open Go.RowKit

set_option maxRecDepth 100000 in
set_option maxHeartbeats 1000000 in
theorem cloneB_any (v : Value) (xs : List Nat) {B : Nat} (w : World) (h : Vw encB w B v xs) (hB : B ≤ w.heap.size) (hl : xs.length ≤ 1000000000) :
    Calls Try.prog 89 #[v] w fun e w' => ∃ v' og', e = .returned v' ∧ SlG encB 5 w' v' og' xs ∧ (∀ g, og' = some g → w.heap.size ≤ g) ∧ Below w.heap.size w w' := by
  obtain ⟨i0, hi0, hz0, hz1, hz2'⟩ := info_parts infoB
  have hnil := Lib.run_eql_slice_nil (P := Try.prog) w 22 5
  obtain ⟨oa, cap, rfl, hc1, hc2⟩ := h.shape
  have H := Lib.hid h
  have HL := Lib.hid hl
  clear h hl
  generalize hn : xs.length = len at *
  have HN := Lib.hid hn
  cases oa with
  | none =>
    have hx : xs = [] := by
      obtain ⟨_, _, h1, _, _, h4⟩ := H.out
      cases h1
      rcases h4 with h4 | ⟨_, _, h5, _⟩
      · exact h4
      · cases h5
    subst hx
    clear hn
    go_enter Try.func89, Try.ntmps89
    go_wp2
    go_ret
    exact ⟨_, none, rfl, SlG.nil _, by simp, Below.refl _ _⟩
  | some ad =>
    clear hn
    go_enter Try.func89, Try.ntmps89
    go_wp2_with (refine wpList_pushV encB_len encB_one Try.underlying22 hi0 hz1 hz0 zeroB rfl (.tmp 5) (.tmp 6) rfl (by exact SlG.fresh0) (by exact H.out.below (((Below.refl _ _).alloc (Nat.le_refl _) _).mono hB)) rfl rfl (by rw [HN.out, hz2']; have := HL.out; simp; omega) (by rw [HN.out]; have := HL.out; simp; omega) ?_)
    intro W1 v1 og1 hs1 ho1 hu1
    have H1 := Lib.hid hs1
    have HG := Lib.hid (og_new (B := w.heap.size) (fun g e => by cases e; exact Nat.le_refl _) (by simp) ho1)
    have HB1 := Lib.hid (show Below w.heap.size w W1 from Upd.belowOf ((Below.refl _ _).alloc (Nat.le_refl _) _) hu1 (fun j hj e => by cases e; omega))
    clear hs1 ho1 hu1
    go_wp2
    go_ret
    exact ⟨_, og1, rfl, H1.out, HG.out, HB1.out⟩
end Go.Proofs.Ytebiebcpdjipjaa

/- DERIVED. Bytes that are only read, as a string; the front of a slice (narthexkeep's Cut). -/
namespace Go.Proofs.Ytebiebcpdjipjaa
open Go.RowKit

def strB (l : List Nat) : ByteArray := strOfNums (l.map (fun n : Nat => (n : Int)))
/-- What a slice reads as. -/
def Rds (w : World) (v : Value) (xs : List Nat) : Prop :=
  ∃ oa cap, v = .slice oa xs.length cap ∧ xs.length ≤ cap ∧ cap ≤ 9223372036854775807 ∧ (xs = [] ∨ ∃ b off, oa = some ⟨b, off, none⟩ ∧ ∀ (j x : Nat), xs[j]? = some x → w.cell? ⟨b, off + j, none⟩ = some (.int .u8 x))
theorem VwA.rds {fp : Nat → Prop} {w : World} {v : Value} {xs : List Nat} (h : VwA encB fp w v xs) : Rds w v xs := by
  obtain ⟨oa, cap, h1, h2, h3, h4⟩ := h
  refine ⟨oa, cap, h1, h2, h3, ?_⟩
  rcases h4 with h4 | ⟨b, off, h4, h5, h6, h7⟩
  · exact .inl h4
  · refine .inr ⟨b, off, h4, fun j x hx => h7 j _ ?_⟩
    rw [flatB, List.getElem?_map, hx]
    rfl
theorem VwA.vw {α : Type} {enc : α → List Value} {fp : Nat → Prop} {w : World} {v : Value} {xs : List α} (h : VwA enc fp w v xs) : Vw enc w w.heap.size v xs := by
  obtain ⟨oa, cap, h1, h2, h3, h4⟩ := h
  refine ⟨oa, cap, h1, h2, h3, ?_⟩
  rcases h4 with h4 | ⟨b, off, h4, h5, h6, h7⟩
  · exact .inl h4
  · exact .inr ⟨b, off, h4, h5, h7⟩
theorem Vw.rds {B : Nat} {w : World} {v : Value} {xs : List Nat} (h : Vw encB w B v xs) : Rds w v xs := by
  obtain ⟨oa, cap, h1, h2, h3, h4⟩ := h
  refine ⟨oa, cap, h1, h2, h3, ?_⟩
  rcases h4 with h4 | ⟨b, off, h4, h5, h7⟩
  · exact .inl h4
  · refine .inr ⟨b, off, h4, fun j x hx => h7 j _ ?_⟩
    rw [flatB, List.getElem?_map, hx]
    rfl
theorem Rds.str {P : Program} {w : World} {v : Value} {xs : List Nat} (h : Rds w v xs) {src dst e : TypeId} (hs : P.underlying src = some (.slice e)) (he : P.underlying e = some (.int .u8)) (hd : P.underlying dst = some .string) :
    (convert src dst v).run P w = .ok (.string (strB xs)) w := by
  obtain ⟨oa, cap, rfl, _, _, h4⟩ := h
  rcases h4 with rfl | ⟨b, off, rfl, h7⟩
  · cases oa with
    | none => exact run_convert_bytes_nil w src e hs he _ _ dst hd
    | some a =>
      rw [run_convert_bytes_string w src dst e _ _ cap hs he hd]
      have hl : (loadCells a 0).run P w = .ok #[] w := by simp [loadCells, loadCellsFrom]
      rw [List.length_nil, run_bytesToString w a 0 cap [] (by simpa using hl)]
      rfl
  · refine run_convert_bytes_arg w src e hs he b off xs.length cap (xs.map (fun n : Nat => (n : Int))) (by simp) ?_ dst hd
    intro i hi
    have := h7 i xs[i] (List.getElem?_eq_getElem hi)
    rw [this]
    simp [List.getD, hi]

theorem Vw.front {α : Type} {enc : α → List Value} {k : Nat} (hk : ∀ a, (enc a).length = k) {w : World} {B : Nat} {oa : Option Addr} {len cap : Nat} {xs : List α} (h : Vw enc w B (.slice oa len cap) xs) (n : Nat) (hn : n ≤ len) : Vw enc w B (.slice oa n cap) (xs.take n) := by
  obtain ⟨oa', cap', h1, h2, h3, h4⟩ := h
  cases h1
  have hl : (xs.take n).length = n := by rw [List.length_take]; omega
  refine ⟨oa, cap, by rw [hl], by rw [hl]; omega, h3, ?_⟩
  rcases h4 with rfl | ⟨b, off, rfl, h5, h6⟩
  · left
    simp
  · refine .inr ⟨b, off, rfl, h5, fun j u hj => h6 j u ?_⟩
    rw [← flat_take hk] at hj
    rw [List.getElem?_take] at hj
    split at hj
    · exact hj
    · cases hj
/-- Cut: no more than n. -/
theorem kcut_v {w : World} {B : Nat} {v : Value} {xs : List Nat} (h : Vw encB w B v xs) (n : Nat) (_hn : n ≤ 9223372036854775807) :
    ∃ oa len cap, v = .slice oa len cap ∧ len = xs.length ∧ len ≤ cap ∧ cap ≤ 9223372036854775807 ∧ Vw encB w B (.slice oa (min len n) cap) (xs.take n) := by
  obtain ⟨oa, cap, rfl, h1, h2⟩ := h.shape
  refine ⟨oa, _, cap, rfl, rfl, h1, h2, ?_⟩
  have := h.front encB_len (min xs.length n) (Nat.min_le_left _ _)
  rw [show xs.take (min xs.length n) = xs.take n by
    rcases Nat.le_total n xs.length with h' | h'
    · rw [Nat.min_eq_right h']
    · rw [Nat.min_eq_left h', List.take_length, List.take_of_length_le h']] at this
  exact this
end Go.Proofs.Ytebiebcpdjipjaa

/- DERIVED. octet's Text, Done; frame's vars, kind. -/
namespace Go.Proofs.Ytebiebcpdjipjaa
open Go.RowKit

theorem VwA.wentU {α : Type} {enc : α → List Value} {fp fp' : Nat → Prop} {w w' : World} {v : Value} {xs : List α} (h : VwA enc fp w v xs) (hw : Went fp fp' w w') : VwA enc fp' w' v xs := by
  have h2 := h.upd hw.upd (fun _ q => q)
  obtain ⟨oa, cap, h1, h2', h3, h4⟩ := h
  obtain ⟨oa', cap', k1, k2, k3, k4⟩ := h2
  subst h1
  cases k1
  refine ⟨_, _, rfl, h2', h3, ?_⟩
  rcases h4 with h4 | ⟨b, off, rfl, h5, h6, h7⟩
  · exact .inl h4
  · rcases k4 with k4 | ⟨b', off', e, k5, k6, k7⟩
    · exact .inl k4
    · cases e
      refine .inr ⟨b, off, rfl, k5, fun q => ?_, k7⟩
      rcases hw.new b q with x | x
      · exact h6 x
      · omega
def varsB (l : List Nat) : List Nat := l.flatMap varB
theorem varsB_len (l : List Nat) : (varsB l).length ≤ 8 * l.length := by
  unfold varsB
  induction l with
  | nil => simp
  | cons a l ih =>
    have := vsize_le a
    simp only [List.flatMap_cons, List.length_append, List.length_cons, varB_len]
    omega
set_option maxRecDepth 100000 in
set_option maxHeartbeats 1000000 in
theorem wvars_any (p : Nat) (bs : List Nat) (fp : Nat → Prop) (v : Value) (l : List Nat) (w : World) (h : WrAt w p bs fp) (hv : VwA encU fp w v l) (hl : ∀ n ∈ l, n < 18446744073709551616) (hb : bs.length ≤ 100000) (hll : l.length ≤ 1000) :
    Calls Try.prog 85 #[.pointer (some ⟨p, 0, none⟩), v] w fun e w' => e = .returned (.tuple #[]) ∧ ∃ fp', WrAt w' p (bs ++ varsB l) fp' ∧ Went fp fp' w w' := by
  obtain ⟨oa, cap, rfl, h1, h2⟩ := hv.shape
  have H := Lib.hid h
  have HV := Lib.hid hv
  generalize hn : l.length = len at *
  have HN := Lib.hid hn
  clear h hn hv
  go_enter Try.func85, Try.ntmps85
  go_wp2_with fail
  go_loopw [8] (fun i wr => ∃ (k : Nat) (fp' : Nat → Prop), i = .int .i64 k ∧ k ≤ len ∧ WrAt wr p (bs ++ varsB (l.take k)) fp' ∧ Went fp fp' w wr) (fun i _ => len - (intOf i).toNat)
  case atStart => exact ⟨0, fp, rfl, by omega, by simpa [varsB] using H.out, Went.refl _ _⟩
  case round =>
    obtain ⟨k, fp', rfl, hk, hw, hwt⟩ := hrel
    have HW := Lib.hid hw
    have HT := Lib.hid hwt
    clear hw hwt
    by_cases hlt : k < len
    · obtain ⟨x, hx⟩ : ∃ x, l[k]? = some x := ⟨_, List.getElem?_eq_getElem (by rw [HN.out]; exact hlt)⟩
      obtain ⟨b, off, rfl, _, c0⟩ := (HV.out.wentU HT.out).vw.num64 hx
      have hx2 := hl x (List.mem_of_getElem? hx)
      have hst : varsB (l.take (k + 1)) = varsB (l.take k) ++ varB x := by
        rw [List.take_add_one, hx, varsB, varsB, List.flatMap_append]
        simp
      have hlv := varsB_len (l.take k)
      rw [List.length_take] at hlv
      have HST := Lib.hid hst
      clear hx hst
      go_wp2_with fail
      refine (wvar_any p _ fp' x _ (by exact HW.out) hx2 (by rw [List.length_append]; omega)).mono ?_
      rintro e w3 ⟨rfl, fp3, hw3, ht3⟩
      have HW3 := Lib.hid hw3
      have HT3 := Lib.hid ht3
      clear hw3 ht3 c0
      go_wp2_with fail
      go_roundw
      case rel => exact ⟨k + 1, fp3, by go_num, by omega, by rw [HST.out, ← List.append_assoc]; exact HW3.out, HT.out.trans HT3.out⟩
      case measure => simp [intOf]; omega
    · obtain rfl : k = len := by omega
      have hlk : l.take k = l := List.take_of_length_le (by rw [HN.out]; omega)
      go_wp2_with fail
      refine bodyPost_end (results_none rfl _ _ _) rfl ?_
      rw [hlk] at HW
      exact ⟨rfl, fp', HW.out, HT.out⟩
set_option maxRecDepth 100000 in
set_option maxHeartbeats 1000000 in
theorem wtext_any (p : Nat) (bs : List Nat) (fp : Nat → Prop) (u : Value) (zs : List Nat) (w : World) (h : WrAt w p bs fp) (hz : VwA encB fp w u zs) (hl : bs.length ≤ 100000) (hl2 : zs.length ≤ 100000) :
    Calls Try.prog 86 #[.pointer (some ⟨p, 0, none⟩), u] w fun e w' => e = .returned (.tuple #[]) ∧ ∃ fp', WrAt w' p (bs ++ varB zs.length ++ zs) fp' ∧ Went fp fp' w w' := by
  obtain ⟨oa, cap, rfl, h1, h2⟩ := hz.shape
  have H := Lib.hid h
  have HZ := Lib.hid hz
  clear h hz
  have hvl : (varB zs.length).length ≤ 8 := by rw [varB_len]; exact vsize_le _
  obtain ⟨len, hlen⟩ : ∃ len, zs.length = len := ⟨_, rfl⟩
  rw [hlen] at h1 hl2 hvl ⊢
  rw [hlen] at HZ
  have HLN := Lib.hid hlen
  clear hlen
  go_enter Try.func86, Try.ntmps86
  go_wp2_with fail
  refine (wvar_any p bs fp len _ (by exact H.out) (by omega) (by omega)).mono ?_
  rintro e w1 ⟨rfl, fp1, hw1, ht1⟩
  have HW1 := Lib.hid hw1
  have HT1 := Lib.hid ht1
  clear hw1 ht1
  go_wp2_with fail
  refine (wraw_any p _ fp1 _ _ zs _ (by exact HW1.out) (by exact (HZ.out.wentU HT1.out).vw) (by rw [List.length_append]; omega) (by rw [HLN.out]; omega)).mono ?_
  rintro e w2 ⟨rfl, fp2, hw2, ht2⟩
  have HW2 := Lib.hid hw2
  have HT2 := Lib.hid (HT1.out.trans ht2)
  clear hw2 ht2
  go_wp2_with fail
  refine bodyPost_end (results_none rfl _ _ _) rfl ?_
  exact ⟨rfl, fp2, HW2.out, HT2.out⟩
end Go.Proofs.Ytebiebcpdjipjaa

/- DERIVED. Walk of frame's in: may all these numbers be written? -/
namespace Go.Proofs.Ytebiebcpdjipjaa
open Go.RowKit

def overB (n : Nat) : Bool := decide (4611686018427387903 < n)
set_option maxRecDepth 100000 in
theorem in1_fn (n : Nat) (w : World) (hn : n < 18446744073709551616) : Calls Try.prog 93 #[.int .u64 n] w fun e w' => e = .returned (.bool (overB n)) ∧ w' = w := by
  obtain ⟨z, hz, hz2⟩ : ∃ z : Int, (n : Int) = z ∧ overB n = decide (4611686018427387903 < z) := ⟨_, rfl, by unfold overB; exact decide_eq_decide.2 (by omega)⟩
  rw [hz, hz2]
  clear hz2
  go_enter Try.func93, Try.ntmps93
  go_wp2_with fail
  go_ret
  exact ⟨rfl, rfl⟩
set_option maxRecDepth 100000 in
set_option maxHeartbeats 1000000 in
theorem index_in (v : Value) (l : List Nat) (B : Nat) (w : World) (h : Vw encU w B v l) (hl : ∀ n ∈ l, n < 18446744073709551616) :
    Calls Try.prog 97 #[v, .func (.func 93) #[] #[]] w
      fun e w' => ∃ z : Int, e = .returned (.int .i64 z) ∧ (decide (0 ≤ z) = l.any overB) ∧ w' = w := by
  obtain ⟨oa, cap, rfl, h1, h2⟩ := h.shape
  have H := Lib.hid h
  generalize hn : l.length = len at *
  have HN := Lib.hid hn
  clear h hn
  go_enter Try.func97, Try.ntmps97
  go_wp2_with fail
  go_loopw [8] (fun i wr => ∃ k : Nat, i = .int .i64 k ∧ k ≤ len ∧ (l.take k).any overB = false ∧ wr = w) (fun i _ => len - (intOf i).toNat)
  case atStart => exact ⟨0, rfl, by omega, rfl, rfl⟩
  case round =>
    obtain ⟨k, rfl, hk, ht, rfl⟩ := hrel
    have HT := Lib.hid ht
    clear ht
    by_cases hlt : k < len
    · obtain ⟨x, hx⟩ : ∃ x, l[k]? = some x := ⟨_, List.getElem?_eq_getElem (by rw [HN.out]; exact hlt)⟩
      obtain ⟨b, off, rfl, _, c0⟩ := H.out.num64 hx
      have hx2 := hl x (List.mem_of_getElem? hx)
      have hst : (l.take (k + 1)).any overB = overB x := by
        rw [List.take_add_one, hx, List.any_append, HT.out]
        simp
      have HST := Lib.hid hst
      have HX := Lib.hid hx
      clear hx hst
      cases hp : overB x
      all_goals go_wp2_with fail
      all_goals (refine (in1_fn x _ hx2).mono ?_; rintro e w' ⟨rfl, rfl⟩)
      · rw [hp]
        go_wp2_with fail
        go_roundw
        case rel => exact ⟨k + 1, by go_num, by omega, by rw [HST.out, hp], trivial⟩
        case measure => simp [intOf]; omega
      · rw [hp]
        go_wp2_with fail
        go_ret
        refine ⟨k, rfl, ?_, rfl⟩
        have h1 : l.any overB = true := List.any_eq_true.2 ⟨x, List.mem_of_getElem? HX.out, hp⟩
        rw [h1]
        simp
    · go_wp2_with fail
      go_ret
      refine ⟨-1, rfl, ?_, rfl⟩
      have := HT.out
      rw [List.take_of_length_le (by rw [HN.out]; omega)] at this
      rw [this]
      rfl
set_option maxRecDepth 100000 in
set_option maxHeartbeats 1000000 in
theorem contains_in (v : Value) (l : List Nat) (B : Nat) (w : World) (h : Vw encU w B v l) (hl : ∀ n ∈ l, n < 18446744073709551616) :
    Calls Try.prog 92 #[v, .func (.func 93) #[] #[]] w fun e w' => e = .returned (.bool (l.any overB)) ∧ w' = w := by
  have H := Lib.hid h
  have HL := Lib.hid hl
  obtain ⟨oa, cap, rfl, h1, h2⟩ := h.shape
  clear h hl
  go_enter Try.func92, Try.ntmps92
  go_wp2_with fail
  refine (index_in _ l B _ (by exact H.out) HL.out).mono ?_
  rintro e w1 ⟨z, rfl, hz, rfl⟩
  have HZ := Lib.hid hz
  clear hz
  go_wp2_with fail
  go_ret
  refine ⟨?_, rfl⟩
  rw [← HZ.out]
  rfl
/-- May all these numbers be written? -/
def inB (l : List Nat) : Bool := !(l.any overB)
set_option maxRecDepth 100000 in
set_option maxHeartbeats 1000000 in
theorem in_any (v : Value) (l : List Nat) (B : Nat) (w : World) (h : Vw encU w B v l) (hl : ∀ n ∈ l, n < 18446744073709551616) :
    Calls Try.prog 80 #[v] w fun e w' => e = .returned (.bool (inB l)) ∧ w' = w := by
  have H := Lib.hid h
  have HL := Lib.hid hl
  obtain ⟨oa, cap, rfl, h1, h2⟩ := h.shape
  clear h hl
  go_enter Try.func80, Try.ntmps80
  go_wp2_with fail
  refine (contains_in _ l B _ (by exact H.out) HL.out).mono ?_
  rintro e w1 ⟨rfl, rfl⟩
  obtain ⟨o, ho⟩ : ∃ o, l.any overB = o := ⟨_, rfl⟩
  have HO := Lib.hid (show inB l = !o by unfold inB; rw [ho])
  rw [ho]
  clear ho
  go_wp2_with fail
  go_ret
  refine ⟨?_, rfl⟩
  rw [HO.out]
  rfl
end Go.Proofs.Ytebiebcpdjipjaa

/- DERIVED. slices.IndexFunc and slices.ContainsFunc with the two closures of ranges. -/
namespace Go.Proofs.Ytebiebcpdjipjaa
open Go.RowKit
set_option maxHeartbeats 400000 in
theorem meet_fn (lo hi c d : Nat) (r : Rg) (w : World) (hc : w.cell? ⟨c, 0, none⟩ = some (.int .u64 lo)) (hd : w.cell? ⟨d, 0, none⟩ = some (.int .u64 hi)) :
    Calls Try.prog 61 #[.agg #[.int .u64 r.1, .int .u64 r.2], .pointer (some ⟨d, 0, none⟩), .pointer (some ⟨c, 0, none⟩)] w fun e w' => e = .returned (.bool (meetP lo hi r)) ∧ Below w.heap.size w w' := by
  have ha := fun o => Lib.cell?_alloc_some o hc
  have hb := fun o => Lib.cell?_alloc_some o hd
  by_cases h1 : r.1 < hi
  all_goals by_cases h2 : lo < r.2
  all_goals
    go_enter Try.func61, Try.ntmps61
    go_wp2
    go_ret
    exact ⟨fn_end (by simp [meetP, h1, h2]; try omega), (Below.refl _ _).alloc (Nat.le_refl _) _⟩

set_option maxRecDepth 100000 in
set_option maxHeartbeats 400000 in
theorem index_meet (lo hi c d : Nat) (v : Value) (og : Option Nat) (xs : List Rg) (w : World) (hs : Sl w v og xs) (hc : w.cell? ⟨c, 0, none⟩ = some (.int .u64 lo)) (hd : w.cell? ⟨d, 0, none⟩ = some (.int .u64 hi)) :
    Calls Try.prog 72 #[v, .func (.func 61) #[] #[.pointer (some ⟨d, 0, none⟩), .pointer (some ⟨c, 0, none⟩)]] w
      fun e w' => ∃ z : Int, e = .returned (.int .i64 z) ∧ decide (0 ≤ z) = xs.any (meetP lo hi) ∧ Below w.heap.size w w' := by
  obtain ⟨oa, cap, rfl, hcap, hcap2⟩ := hs.shape
  have HS := Lib.hid hs
  have HC := Lib.hid hc
  have HD := Lib.hid hd
  clear hs hc hd
  generalize hn : xs.length = len at *
  have HN := Lib.hid hn
  clear hn
  go_enter Try.func72, Try.ntmps72
  go_wp2_with fail
  go_loopw [8] (fun i wr => ∃ k : Nat, i = .int .i64 k ∧ k ≤ len ∧ (xs.take k).any (meetP lo hi) = false ∧ Below w.heap.size w wr) (fun i _ => len - (intOf i).toNat)
  case atStart => exact ⟨0, rfl, by omega, by simp, Below.refl _ _⟩
  case round =>
    obtain ⟨k, rfl, hk, hany, hb⟩ := hrel
    have HA := Lib.hid hany
    have HB := Lib.hid hb
    clear hany hb
    by_cases hlt : k < len
    · obtain ⟨r, hr⟩ : ∃ r, xs[k]? = some r := ⟨_, List.getElem?_eq_getElem (by rw [HN.out]; exact hlt)⟩
      obtain ⟨g, hog, rfl, hgl, c0, c1⟩ := HS.out.atS hr
      have HR := Lib.hid hr
      have d0 := (HB.out.cell (p := ⟨g, k * 2, none⟩) hgl).trans c0
      have d1 := (HB.out.cell (p := ⟨g, k * 2 + 1, none⟩) hgl).trans c1
      clear c0 c1 hog hr
      have hcl := cell_in HC.out
      have hdl := cell_in HD.out
      have hfn := Lib.hid (meet_fn lo hi c d r wr ((HB.out.cell (p := ⟨c, 0, none⟩) hcl).trans HC.out) ((HB.out.cell (p := ⟨d, 0, none⟩) hdl).trans HD.out))
      cases hp : meetP lo hi r
      all_goals go_wp2_with fail
      all_goals (refine hfn.out.mono ?_; rintro e w' ⟨rfl, hb'⟩)
      all_goals (have HB' := Lib.hid (below_call HB.out HB.out.size hb'))
      all_goals clear hb'
      · rw [hp]
        go_wp2
        go_roundw
        case rel => exact ⟨k + 1, by go_num, by omega, by rw [take_any HR.out, HA.out, hp]; rfl, HB'.out⟩
        case measure => simp [intOf]; omega
      · rw [hp]
        go_wp2
        go_ret
        refine ⟨k, rfl, ?_, HB'.out⟩
        have h1 : xs.any (meetP lo hi) = true := List.any_eq_true.2 ⟨r, List.mem_of_getElem? HR.out, hp⟩
        rw [h1]
        simp
    · go_wp2
      go_ret
      refine ⟨-1, rfl, ?_, HB.out⟩
      have := HA.out
      rw [List.take_of_length_le (by rw [HN.out]; omega)] at this
      rw [this]
      rfl

set_option maxHeartbeats 400000 in
theorem contains_meet (lo hi c d : Nat) (v : Value) (og : Option Nat) (xs : List Rg) (w : World) (hs : Sl w v og xs) (hc : w.cell? ⟨c, 0, none⟩ = some (.int .u64 lo)) (hd : w.cell? ⟨d, 0, none⟩ = some (.int .u64 hi)) :
    Calls Try.prog 57 #[v, .func (.func 61) #[] #[.pointer (some ⟨d, 0, none⟩), .pointer (some ⟨c, 0, none⟩)]] w
      fun e w' => e = .returned (.bool (xs.any (meetP lo hi))) ∧ Below w.heap.size w w' := by
  have HI := Lib.hid (index_meet lo hi c d v og xs w hs hc hd)
  clear hs hc hd
  go_enter Try.func57, Try.ntmps57
  go_wp2_with fail
  refine HI.out.mono ?_
  rintro e w' ⟨z, rfl, hz, hb⟩
  have HZ := Lib.hid hz
  have HB := Lib.hid hb
  clear hz hb
  go_wp2
  go_ret
  exact ⟨fn_end HZ.out, HB.out⟩
end Go.Proofs.Ytebiebcpdjipjaa

/- DERIVED. Walk of the set's Has. -/
namespace Go.Proofs.Ytebiebcpdjipjaa
open Go.RowKit

set_option maxHeartbeats 400000 in
theorem has_fn (n c : Nat) (r : Rg) (w : World) (hc : w.cell? ⟨c, 0, none⟩ = some (.int .u64 n)) :
    Calls Try.prog 58 #[.agg #[.int .u64 r.1, .int .u64 r.2], .pointer (some ⟨c, 0, none⟩)] w fun e w' => e = .returned (.bool (hasP n r)) ∧ Below w.heap.size w w' := by
  have ha := fun o => Lib.cell?_alloc_some o hc
  by_cases h1 : r.1 ≤ n
  all_goals by_cases h2 : n < r.2
  all_goals
    go_enter Try.func58, Try.ntmps58
    go_wp2
    go_ret
    exact ⟨fn_end (by simp [hasP, h1, h2]; try omega), (Below.refl _ _).alloc (Nat.le_refl _) _⟩

set_option maxRecDepth 100000 in
set_option maxHeartbeats 400000 in
theorem index_has (n c : Nat) (v : Value) (og : Option Nat) (xs : List Rg) (w : World) (hs : Sl w v og xs) (hc : w.cell? ⟨c, 0, none⟩ = some (.int .u64 n)) :
    Calls Try.prog 72 #[v, .func (.func 58) #[] #[.pointer (some ⟨c, 0, none⟩)]] w
      fun e w' => ∃ z : Int, e = .returned (.int .i64 z) ∧ decide (0 ≤ z) = xs.any (hasP n) ∧ Below w.heap.size w w' := by
  obtain ⟨oa, cap, rfl, hcap, hcap2⟩ := hs.shape
  have HS := Lib.hid hs
  have HC := Lib.hid hc
  clear hs hc
  generalize hn : xs.length = len at *
  have HN := Lib.hid hn
  clear hn
  go_enter Try.func72, Try.ntmps72
  go_wp2_with fail
  go_loopw [8] (fun i wr => ∃ k : Nat, i = .int .i64 k ∧ k ≤ len ∧ (xs.take k).any (hasP n) = false ∧ Below w.heap.size w wr) (fun i _ => len - (intOf i).toNat)
  case atStart => exact ⟨0, rfl, by omega, by simp, Below.refl _ _⟩
  case round =>
    obtain ⟨k, rfl, hk, hany, hb⟩ := hrel
    have HA := Lib.hid hany
    have HB := Lib.hid hb
    clear hany hb
    by_cases hlt : k < len
    · obtain ⟨r, hr⟩ : ∃ r, xs[k]? = some r := ⟨_, List.getElem?_eq_getElem (by rw [HN.out]; exact hlt)⟩
      obtain ⟨g, hog, rfl, hgl, c0, c1⟩ := HS.out.atS hr
      have HR := Lib.hid hr
      have d0 := (HB.out.cell (p := ⟨g, k * 2, none⟩) hgl).trans c0
      have d1 := (HB.out.cell (p := ⟨g, k * 2 + 1, none⟩) hgl).trans c1
      clear c0 c1 hog hr
      have hcl := cell_in HC.out
      have hfn := Lib.hid (has_fn n c r wr ((HB.out.cell (p := ⟨c, 0, none⟩) hcl).trans HC.out))
      cases hp : hasP n r
      all_goals go_wp2_with fail
      all_goals (refine hfn.out.mono ?_; rintro e w' ⟨rfl, hb'⟩)
      all_goals (have HB' := Lib.hid (below_call HB.out HB.out.size hb'))
      all_goals clear hb'
      · rw [hp]
        go_wp2
        go_roundw
        case rel => exact ⟨k + 1, by go_num, by omega, by rw [take_any HR.out, HA.out, hp]; rfl, HB'.out⟩
        case measure => simp [intOf]; omega
      · rw [hp]
        go_wp2
        go_ret
        refine ⟨k, rfl, ?_, HB'.out⟩
        have h1 : xs.any (hasP n) = true := List.any_eq_true.2 ⟨r, List.mem_of_getElem? HR.out, hp⟩
        rw [h1]
        simp
    · go_wp2
      go_ret
      refine ⟨-1, rfl, ?_, HB.out⟩
      have := HA.out
      rw [List.take_of_length_le (by rw [HN.out]; omega)] at this
      rw [this]
      rfl
set_option maxHeartbeats 400000 in
theorem contains_has (n c : Nat) (v : Value) (og : Option Nat) (xs : List Rg) (w : World) (hs : Sl w v og xs) (hc : w.cell? ⟨c, 0, none⟩ = some (.int .u64 n)) :
    Calls Try.prog 57 #[v, .func (.func 58) #[] #[.pointer (some ⟨c, 0, none⟩)]] w
      fun e w' => e = .returned (.bool (xs.any (hasP n))) ∧ Below w.heap.size w w' := by
  have HI := Lib.hid (index_has n c v og xs w hs hc)
  clear hs hc
  go_enter Try.func57, Try.ntmps57
  go_wp2_with fail
  refine HI.out.mono ?_
  rintro e w' ⟨z, rfl, hz, hb⟩
  have HZ := Lib.hid hz
  have HB := Lib.hid hb
  clear hz hb
  go_wp2
  go_ret
  exact ⟨fn_end HZ.out, HB.out⟩


set_option maxHeartbeats 400000 in
theorem shas_any (b : Nat) (most : Int) (og : Option Nat) (xs : List Rg) (n : Nat) (w : World) (h : SetAt w b most og xs) :
    Calls Try.prog 43 #[.pointer (some ⟨b, 0, none⟩), .int .u64 n] w fun e w' => e = .returned (.bool (xs.any (hasP n))) ∧ Below w.heap.size w w' := by
  obtain ⟨v, hb, hs, hne⟩ := h
  have c1 := cell_at hb 1
  simp at c1
  have ha := fun o => Lib.cell?_alloc_some o c1
  have HS := Lib.hid hs
  clear hb hs
  go_enter Try.func43, Try.ntmps43
  go_wp2_with fail
  refine (contains_has n w.heap.size v og xs _ (HS.out.below ((Below.refl _ _).alloc (Nat.le_refl _) _)) (by simp)).mono ?_
  rintro e w' ⟨rfl, hb⟩
  have HB := Lib.hid (below_call ((Below.refl w.heap.size w).alloc (Nat.le_refl _) _) (by simp) hb)
  clear hb ha c1
  go_wp2
  go_ret
  exact ⟨rfl, HB.out⟩

end Go.Proofs.Ytebiebcpdjipjaa

/- DERIVED. Walk of a set's All. -/
namespace Go.Proofs.Ytebiebcpdjipjaa
open Go.RowKit
set_option maxHeartbeats 400000 in
theorem all_any (b : Nat) (most : Int) (og : Option Nat) (xs : List Rg) (w : World) (h : SetAt w b most og xs) (hl : xs.length * 16 ≤ 140737488355328) :
    Calls Try.prog 62 #[.pointer (some ⟨b, 0, none⟩)] w (Made w xs) := by
  obtain ⟨v, hb, hs, hne⟩ := h
  have c1 := cell_at hb 1
  simp at c1
  have HS := Lib.hid hs
  clear hb hs
  go_enter Try.func62, Try.ntmps62
  go_wp2_with fail
  refine (clone_any _ _ _ _ HS.out hl).mono ?_
  rintro e w' ⟨v', og', rfl, h1, h2, h3⟩
  have HM := Lib.hid (show Made w xs (.returned v') w' from ⟨v', og', rfl, h1, h2, h3⟩)
  clear h1 h2 h3
  go_wp2
  go_ret
  exact HM.out
end Go.Proofs.Ytebiebcpdjipjaa

/- DERIVED. Walk of inbuf's New. -/
namespace Go.Proofs.Ytebiebcpdjipjaa
open Go.RowKit

noncomputable def hasLen : List Value → Nat → Bool := List.rec (fun n => match n with | 0 => true | _ + 1 => false) (fun _ _ ih n => match n with | 0 => false | m + 1 => ih m)
theorem hasLen_eq : ∀ (l : List Value) (n : Nat), hasLen l n = true → l.length = n
  | [], 0, _ => rfl
  | [], n + 1, h => by cases h
  | a :: l, 0, h => by cases h
  | a :: l, n + 1, h => by
    have := hasLen_eq l n h
    simp [this]
theorem infoBuf : (Try.prog.info? 84).map (fun i => match i.zero with | some (.agg cs) => (hasLen cs.toList 2053, cs.toList.take 4) | _ => (false, [])) = some (true, [.int .u64 0, .int .u64 0, .int .u64 0, .bool false]) := by kernel_rfl
theorem zeroBuf : ∃ Z : Array Value, (∀ w : World, (zeroValue 84).run Try.prog w = .ok (.agg Z) w) ∧ Z.size = 2053 ∧ Z.toList.take 4 = [.int .u64 0, .int .u64 0, .int .u64 0, .bool false] := by
  have h := infoBuf
  cases hi : Try.prog.info? 84 with
  | none => rw [hi] at h; cases h
  | some i =>
    rw [hi] at h
    simp only [Option.map_some, Option.some.injEq] at h
    split at h
    · rename_i cs hc
      obtain ⟨h1, h2⟩ := Prod.mk.injEq .. ▸ h
      exact ⟨cs, fun w => by simp [zeroValue, typeInfo, hi, hc], by simpa using hasLen_eq _ _ h1, h2⟩
    · cases h

set_option maxRecDepth 100000 in
set_option maxHeartbeats 400000 in
theorem bnew_any (w : World) : Calls Try.prog 21 #[] w fun e w' => ∃ b fp, e = .returned (.pointer (some ⟨b, 0, none⟩)) ∧ IbAt w' b IB.zero fp ∧ (∀ k, fp k → w.heap.size ≤ k) ∧ Below w.heap.size w w' := by
  obtain ⟨Z, hZ, hsz, hZ2⟩ := zeroBuf
  have HZ := Lib.hid hZ2
  clear hZ2
  go_enter Try.func21, Try.ntmps21
  go_wp2_with fail
  refine (snew_any 2048 _).mono ?_
  rintro e w1 ⟨c, rfl, hb1, hs, hb⟩
  rw [show mostOf 2048 = 2048 from rfl] at hs
  have HS := Lib.hid hs
  have HB := Lib.hid hb
  clear hs hb
  go_wp2_with fail
  go_ret
  have e : ∀ i, i < 4 → (Z.setIfInBounds 2052 (.pointer (some ⟨c, 0, none⟩)))[i]? = ([.int .u64 0, .int .u64 0, .int .u64 0, .bool false] : List Value)[i]? := by
    intro i hi
    rw [Array.getElem?_setIfInBounds, if_neg (by omega), ← HZ.out, List.getElem?_take_of_lt hi]
    simp
  have hne : c < w1.heap.size := by
    obtain ⟨v, h1, _⟩ := HS.out
    exact heap_lt h1
  refine ⟨w1.heap.size, fun j => j = w1.heap.size ∨ j = c ∨ (none : Option Nat) = some j, rfl, ⟨c, none, [], _, ⟨alloc_at _ _, by simpa using hsz, e 0 (by omega), e 1 (by omega), e 2 (by omega), e 3 (by omega), ?_, ?_, ?_, CameIs.zero, IB.zero_ok, by omega, by simp⟩, rfl⟩, ?_, ?_⟩
  · intro j v hv
    simp [IB.zero, gt] at hv
  · rw [Array.getElem?_setIfInBounds, if_pos rfl]
    simp [hsz]
  · exact HS.out.below ((Below.refl _ _).alloc (Nat.le_refl _) _)
  · have := HB.out.size
    rintro k (rfl | rfl | h)
    · exact this
    · exact hb1
    · cases h
  · exact HB.out.alloc HB.out.size _
end Go.Proofs.Ytebiebcpdjipjaa

/- DERIVED. Walks of inbuf's readers. -/
namespace Go.Proofs.Ytebiebcpdjipjaa
open Go.RowKit

theorem IbAt.cells {w : World} {b : Nat} {s : IB} {fp : Nat → Prop} (h : IbAt w b s fp) :
    w.cell? ⟨b, 0, none⟩ = some (.int .u64 s.rd) ∧ w.cell? ⟨b, 1, none⟩ = some (.int .u64 s.hi) ∧ w.cell? ⟨b, 2, none⟩ = some (.int .u64 s.fin) ∧ w.cell? ⟨b, 3, none⟩ = some (.bool s.kn) := by
  obtain ⟨c, og, xs, cs, h, _⟩ := h
  exact ⟨by rw [cell_at h.blk, h.c0], by rw [cell_at h.blk, h.c1], by rw [cell_at h.blk, h.c2], by rw [cell_at h.blk, h.c3]⟩
theorem IbAt.bd {w : World} {b : Nat} {s : IB} {fp : Nat → Prop} (h : IbAt w b s fp) : s.rd ≤ 1099511628288 ∧ s.hi ≤ 1099511628288 ∧ s.fin ≤ 1099511628288 ∧ s.rd + rdy s.L ≤ 1099511628288 := by
  have ho := h.ok
  have h1 := ho.hi
  have h2 := ho.fin
  have h3 := ho.top
  have h4 := rdy_le s.L
  omega

set_option maxHeartbeats 400000 in
theorem bread_q (b : Nat) (s : IB) (fp : Nat → Prop) (w : World) (h : IbAt w b s fp) :
    Calls Try.prog 28 #[.pointer (some ⟨b, 0, none⟩)] w fun e w' => e = .returned (.int .u64 s.rd) ∧ ∃ n, w' = w.drewN n := by
  obtain ⟨c0, _, _, _⟩ := h.cells
  clear h
  go_enter Try.func28, Try.ntmps28
  go_wp2
  go_ret
  exact ⟨rfl, 0, rfl⟩
set_option maxHeartbeats 400000 in
theorem bhigh_q (b : Nat) (s : IB) (fp : Nat → Prop) (w : World) (h : IbAt w b s fp) :
    Calls Try.prog 27 #[.pointer (some ⟨b, 0, none⟩)] w fun e w' => e = .returned (.int .u64 s.hi) ∧ ∃ n, w' = w.drewN n := by
  obtain ⟨_, c0, _, _⟩ := h.cells
  clear h
  go_enter Try.func27, Try.ntmps27
  go_wp2
  go_ret
  exact ⟨rfl, 0, rfl⟩
set_option maxHeartbeats 400000 in
theorem bfinal_q (b : Nat) (s : IB) (fp : Nat → Prop) (w : World) (h : IbAt w b s fp) :
    Calls Try.prog 24 #[.pointer (some ⟨b, 0, none⟩)] w fun e w' => e = .returned (.tuple #[.int .u64 s.fin, .bool s.kn]) ∧ ∃ n, w' = w.drewN n := by
  obtain ⟨_, _, c0, c1⟩ := h.cells
  clear h
  go_enter Try.func24, Try.ntmps24
  go_wp2
  go_quiet (fail)
  go_wp2
  go_ret2
  exact ⟨rfl, _, rfl⟩

theorem find_take {p : Rg → Bool} {xs : List Rg} {k : Nat} {r : Rg} (h : xs[k]? = some r) (h0 : (xs.take k).find? p = none) (h1 : p r = false) : (xs.take (k + 1)).find? p = none := by
  rw [List.take_add_one, h, List.find?_append, h0]
  simp [h1]
theorem find_hit {p : Rg → Bool} {xs : List Rg} {k : Nat} {r : Rg} (h : xs[k]? = some r) (h0 : (xs.take k).find? p = none) (h1 : p r = true) : xs.find? p = some r := by
  have e : xs = xs.take k ++ r :: xs.drop (k + 1) := by
    rw [← drop_at h, List.take_append_drop]
  rw [e, List.find?_append, h0]
  simp [h1]

theorem readyOf_hit {xs : List Rg} {rd : Nat} {r : Rg} (h : xs.find? (hasP rd) = some r) : readyOf xs rd = r.2 := by
  unfold readyOf
  rw [h]
theorem readyOf_none {xs : List Rg} {rd : Nat} (h : xs.find? (hasP rd) = none) : readyOf xs rd = rd := by
  unfold readyOf
  rw [h]
set_option maxRecDepth 100000 in
set_option maxHeartbeats 1000000 in
theorem bready_any (b : Nat) (s : IB) (fp : Nat → Prop) (w : World) (h : IbAt w b s fp) :
    Calls Try.prog 45 #[.pointer (some ⟨b, 0, none⟩)] w fun e w' => e = .returned (.int .u64 ((s.rd + rdy s.L : Nat) : Int)) ∧ Below w.heap.size w w' := by
  obtain ⟨c0, _, _, _⟩ := h.cells
  obtain ⟨hb1, _, _, hb2⟩ := h.bd
  obtain ⟨c, og, xs, cs, h, hfp⟩ := h
  have hfew := h.is.few h.ok
  have hrd := h.is.ready
  have hbl : b < w.heap.size := heap_lt h.blk
  have c5 : w.cell? ⟨b, 2052, none⟩ = some (.pointer (some ⟨c, 0, none⟩)) := by rw [cell_at h.blk, h.c5]
  have HC := Lib.hid h.came
  have HR := Lib.hid hrd
  clear h hfp hrd
  go_enter Try.func45, Try.ntmps45
  go_wp2_with fail
  refine (all_any c 2048 og xs _ (by exact HC.out) (by omega)).mono ?_
  rintro e w1 ⟨va, oga, rfl, hsl, hnew, hb⟩
  have d0 := cell_keep hb hbl c0
  obtain ⟨oa, cap, rfl, hc1, hc2⟩ := hsl.shape
  have HS := Lib.hid hsl
  have HB := Lib.hid hb
  have hbl1 : b < w1.heap.size := Nat.lt_of_lt_of_le hbl hb.size
  clear hsl hnew hb c0 c5 HC
  generalize hn : xs.length = len at *
  have HN := Lib.hid hn
  clear hn
  go_wp2_with fail
  go_loopw [11] (fun i wr => ∃ k : Nat, i = .int .i64 k ∧ k ≤ len ∧ (xs.take k).find? (hasP s.rd) = none ∧ Below w1.heap.size w1 wr) (fun i _ => len - (intOf i).toNat)
  case atStart => exact ⟨0, rfl, by omega, rfl, Below.refl _ _⟩
  case round =>
    obtain ⟨k, rfl, hk, hf, hb⟩ := hrel
    have HF := Lib.hid hf
    have HB2 := Lib.hid hb
    have e0 := cell_keep hb hbl1 d0
    clear hf hb
    by_cases hlt : k < len
    · obtain ⟨r, hr⟩ : ∃ r, xs[k]? = some r := ⟨_, List.getElem?_eq_getElem (by rw [HN.out]; exact hlt)⟩
      obtain ⟨g, hog, rfl, hgl, q0, q1⟩ := HS.out.atS hr
      have e1 := cell_keep HB2.out hgl q0
      have e2 := cell_keep HB2.out hgl q1
      have HX := Lib.hid hr
      have ha0 := fun o => Lib.cell?_alloc_some o e0
      clear q0 q1 hog hr
      by_cases h1 : r.1 ≤ s.rd
      · by_cases h2 : s.rd < r.2
        · go_wp2_with fail
          go_quiet (fail)
          go_wp2_with fail
          go_ret
          refine ⟨ret_i64 ?_, below_call HB.out HB.out.size (below_call (HB2.out.alloc HB2.out.size _) (Nat.le_trans HB2.out.size (by simp)) (below_drewN (Below.refl _ _) _))⟩
          rw [← HR.out, readyOf_hit (find_hit HX.out HF.out (by simp [hasP, h1, h2]))]
        · go_wp2_with fail
          go_quiet (fail)
          go_wp2_with fail
          go_roundw
          case rel => exact ⟨k + 1, by go_num, by omega, find_take HX.out HF.out (by simp [hasP]; omega), below_drewN (HB2.out.alloc HB2.out.size _) _⟩
          case measure => simp [intOf]; omega
      · have h1' : decide (r.1 ≤ s.rd) = false := decide_eq_false h1
        go_wp2_with fail
        go_quiet (fail)
        go_wp2_with fail
        go_roundw
        case rel => exact ⟨k + 1, by go_num, by omega, find_take HX.out HF.out (by simp [hasP]; omega), below_drewN (HB2.out.alloc HB2.out.size _) _⟩
        case measure => simp [intOf]; omega
    · go_wp2_with fail
      go_ret
      refine ⟨ret_i64 ?_, below_call HB.out HB.out.size HB2.out⟩
      have := HF.out
      rw [List.take_of_length_le (by rw [HN.out]; omega)] at this
      rw [← HR.out, readyOf_none this]

theorem bready_z (b : Nat) (s : IB) (fp : Nat → Prop) (w : World) (h : IbAt w b s fp) {z : Nat} (hz : s.rd + rdy s.L = z) :
    Calls Try.prog 45 #[.pointer (some ⟨b, 0, none⟩)] w fun e w' => e = .returned (.int .u64 z) ∧ Below w.heap.size w w' := by
  subst hz
  exact bready_any b s fp w h

set_option maxRecDepth 100000 in
set_option maxHeartbeats 1000000 in
theorem bRdy_any (b : Nat) (s : IB) (fp : Nat → Prop) (w : World) (h : IbAt w b s fp) :
    Calls Try.prog 46 #[.pointer (some ⟨b, 0, none⟩)] w fun e w' => e = .returned (.int .i64 (rdy s.L : Nat)) ∧ Below w.heap.size w w' := by
  obtain ⟨c0, _, _, _⟩ := h.cells
  obtain ⟨hb1, _, _, hb2⟩ := h.bd
  have hbl : b < w.heap.size := h.lt.2 b h.lt.1
  have H := Lib.hid h
  clear h
  obtain ⟨z, hz⟩ : ∃ z, s.rd + rdy s.L = z := ⟨_, rfl⟩
  have HZ := Lib.hid hz
  have hw1 : IntKind.u64.wrap ((z : Int) - s.rd) = (rdy s.L : Nat) := by rw [IntWalk.u64_in _ (by omega)]; omega
  have hw2 : IntKind.i64.wrap ((rdy s.L : Nat) : Int) = (rdy s.L : Nat) := IntWalk.i64_in _ (by omega)
  clear hz
  go_enter Try.func46, Try.ntmps46
  go_wp2_with fail
  go_region_held3 (fun w' => w'.cell? ⟨b, 0, none⟩ = w.cell? ⟨b, 0, none⟩) (go_keep)
    (first | (go_at_call 45; refine (bready_z b s fp _ (by exact H.out.drew) HZ.out).mono ?_; rintro e w' ⟨rfl, hb⟩; have k0 := (hb.cell (p := ⟨b, 0, none⟩) (by exact hbl)).trans (by exact c0)))
  rename_i hHeld
  have HB := Lib.hid (below_call (Below.refl w.heap.size w).drew (Nat.le_refl _) hb)
  clear hb hHeld
  go_wp2
  go_ret
  exact ⟨rfl, HB.out⟩

set_option maxRecDepth 100000 in
set_option maxHeartbeats 1000000 in
theorem bwhole_any (b : Nat) (s : IB) (fp : Nat → Prop) (w : World) (h : IbAt w b s fp) :
    Calls Try.prog 25 #[.pointer (some ⟨b, 0, none⟩)] w fun e w' => e = .returned (.bool s.whole) ∧ Below w.heap.size w w' := by
  obtain ⟨_, _, c2, c3⟩ := h.cells
  obtain ⟨hb1, hb3, hb4, hb2⟩ := h.bd
  have hbl : b < w.heap.size := h.lt.2 b h.lt.1
  have H := Lib.hid h
  clear h
  obtain ⟨z, hz⟩ : ∃ z, s.rd + rdy s.L = z := ⟨_, rfl⟩
  have HZ := Lib.hid hz
  have HW := Lib.hid (show s.whole = (s.kn && decide (z = s.fin)) by rw [IB.whole, hz])
  clear hz
  rw [HW.out]
  cases hk : s.kn
  · rw [hk] at c3
    go_enter Try.func25, Try.ntmps25
    go_wp2_with fail
    go_quiet (fail)
    go_wp2
    go_ret
    exact ⟨rfl, below_drewN (Below.refl _ _) _⟩
  · rw [hk] at c3
    go_enter Try.func25, Try.ntmps25
    go_wp2_with fail
    go_region_held3 (fun w' => w'.cell? ⟨b, 2, none⟩ = w.cell? ⟨b, 2, none⟩ ∧ w'.cell? ⟨b, 3, none⟩ = w.cell? ⟨b, 3, none⟩) (go_keep)
      (first | (go_at_call 45; refine (bready_z b s fp _ (by exact H.out.drew) HZ.out).mono ?_; rintro e w' ⟨rfl, hb⟩; have k0 := (hb.cell (p := ⟨b, 2, none⟩) (by exact hbl)).trans (by exact c2); have k1 := (hb.cell (p := ⟨b, 3, none⟩) (by exact hbl)).trans (by exact c3)))
    rename_i hHeld
    have HB := Lib.hid (below_call (Below.refl w.heap.size w).drew (Nat.le_refl _) hb)
    clear hb hHeld
    go_wp2
    go_ret
    exact ⟨fn_end (by simp [eqN]), HB.out⟩
end Go.Proofs.Ytebiebcpdjipjaa
