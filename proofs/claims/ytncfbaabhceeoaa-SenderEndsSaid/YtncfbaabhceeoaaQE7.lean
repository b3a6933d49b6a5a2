/- DERIVED. Walks of a set's Has and Add. -/
import Derived.Deep.RegionWith
import Derived.Deep.CutBlock
import Derived.Deep.DeepCutAuto
import Derived.Laws.ResultCell
import Derived.Test.YtncfbaabhceeoaaQE4
import Derived.Test.YtncfbaabhceeoaaQE6
set_option linter.all false
namespace Go.Proofs.Ytncfbaabhceeoaa
open Go.RowKit
set_option maxRecDepth 100000 in
set_option maxHeartbeats 1000000 in
theorem add_no (b lo hi : Nat) (w : World) (h : ¬ (lo < hi ∧ hi ≤ 4611686018427387904)) :
    Calls Try.prog 64 #[.pointer (some ⟨b, 0, none⟩), .int .u64 lo, .int .u64 hi] w fun e w' => e = .returned (.bool false) ∧ Below w.heap.size w w' := by
  rcases (by omega : hi ≤ lo ∨ (lo < hi ∧ 4611686018427387904 < hi)) with h | ⟨h1, h2⟩
  all_goals
    go_enter Try.func64, Try.ntmps64
    go_wp2
    go_ret
    exact ⟨rfl, ((Below.refl _ _).alloc (Nat.le_refl _) _).alloc (by simp) _⟩


/-- The state behind the first search: the set as it was, the two boxes, the range that grows. -/
structure AddSt (w wx : World) (b : Nat) (most : Int) (v : Value) (og : Option Nat) (xs : List Rg) (lo hi c : Nat) (r : Rg) : Prop where
  set : SetIs wx b most v og xs
  lo : wx.cell? ⟨w.heap.size, 0, none⟩ = some (.int .u64 lo)
  hi : wx.cell? ⟨w.heap.size + 1, 0, none⟩ = some (.int .u64 hi)
  cur : wx.heap[c]? = some (.cells #[.int .u64 r.1, .int .u64 r.2] 92 (0, 0))
  below : Below w.heap.size w wx
  size : wx.heap.size = c + 1
  far : w.heap.size + 1 < c
theorem AddSt.drewN {w wx : World} {b : Nat} {most : Int} {v : Value} {og : Option Nat} {xs : List Rg} {lo hi c : Nat} {r : Rg} (h : AddSt w wx b most v og xs lo hi c r) (n : Nat) : AddSt w (wx.drewN n) b most v og xs lo hi c r :=
  ⟨h.set, h.lo, h.hi, h.cur, below_drewN h.below n, h.size, h.far⟩
theorem AddSt.put {w wx : World} {b : Nat} {most : Int} {v : Value} {og : Option Nat} {xs : List Rg} {lo hi c : Nat} {r : Rg} (h : AddSt w wx b most v og xs lo hi c r) (hb : b < w.heap.size) (hg : ∀ g, og = some g → g < w.heap.size) (r' : Rg) :
    AddSt w ((wx.setCell ⟨c, 0, none⟩ (.int .u64 r'.1)).setCell ⟨c, 1, none⟩ (.int .u64 r'.2)) b most v og xs lo hi c r' := by
  have hu : Upd (fun j => j = c) wx ((wx.setCell ⟨c, 0, none⟩ (.int .u64 r'.1)).setCell ⟨c, 1, none⟩ (.int .u64 r'.2)) :=
    Upd.setCell (Upd.setCell (Upd.refl (fun j => j = c) wx) ⟨c, 0, none⟩ (.inl rfl) _) ⟨c, 1, none⟩ (.inl rfl) _
  have hf := h.far
  have hcell : ∀ j o, j ≠ c → ((wx.setCell ⟨c, 0, none⟩ (.int .u64 r'.1)).setCell ⟨c, 1, none⟩ (.int .u64 r'.2)).cell? ⟨j, o, none⟩ = wx.cell? ⟨j, o, none⟩ := fun j o hj => by
    apply World.cell?_of_block
    rw [Below.heap_setCell _ _ _ _ hj, Below.heap_setCell _ _ _ _ hj]
  refine ⟨h.set.keeps hu (by omega) (fun g hg' => by have := hg g hg'; omega), by rw [hcell _ _ (by omega)]; exact h.lo, by rw [hcell _ _ (by omega)]; exact h.hi, ?_, Upd.onto h.below hu (by rw [h.size]; omega) (by intro j h1 h2; omega), by simp [World.setCell, h.size], h.far⟩
  rw [set_at (set_at h.cur 0 _) 1 _]
  rfl

/-- Behind Replace and the store: what is known, as the trim is called. -/
theorem add_fin {w wc w5 : World} {b : Nat} {most : Int} {v : Value} {og og5 : Option Nat} {xs ys : List Rg} {lo hi c : Nat} {f : Rg} {oa5 : Option Addr} {n5 cap5 : Nat} {o : Obj} (h : AddSt w wc b most v og xs lo hi c f) (hb : b < w.heap.size) (hgl : ∀ g, og = some g → g < w.heap.size)
    (hsl : Sl w5 (.slice oa5 n5 cap5) og5 ys) (hog5 : og5 = og ∨ ∃ g, og5 = some g ∧ wc.heap.size + 1 ≤ g) (hup : Upd (fun j => og = some j) (wc.alloc o).drew w5) (hb5 : w5.heap[b]? = some (.cells #[.int .i64 most, v] 126 (0, 0))) :
    SetAt (w5.setCell ⟨b, 1, none⟩ (.slice oa5 n5 cap5)) b most og5 ys ∧ Upd (fun j => j = b ∨ og = some j) w (w5.setCell ⟨b, 1, none⟩ (.slice oa5 n5 cap5)) ∧
      (w5.setCell ⟨b, 1, none⟩ (.slice oa5 n5 cap5)).cell? ⟨w.heap.size, 0, none⟩ = some (.int .u64 lo) ∧ (w5.setCell ⟨b, 1, none⟩ (.slice oa5 n5 cap5)).cell? ⟨w.heap.size + 1, 0, none⟩ = some (.int .u64 hi) ∧
      (og5 = og ∨ ∃ g, og5 = some g ∧ w.heap.size + 2 ≤ g) := by
  have hsz := h.size
  have hfar := h.far
  have hog : og5 = og ∨ ∃ g, og5 = some g ∧ w.heap.size + 2 ≤ g := by
    rcases hog5 with hx | ⟨g, hx, hg⟩
    · exact .inl hx
    · exact .inr ⟨g, hx, by omega⟩
  have hne5 : og5 ≠ some b := by
    rintro rfl
    rcases hog with hx | ⟨g, hx, hg⟩
    · exact h.set.2.2 hx.symm
    · cases hx; omega
  have hu5 : Upd (fun j => j = b) w5 (w5.setCell ⟨b, 1, none⟩ (.slice oa5 n5 cap5)) := Upd.setCell (Upd.refl (fun j => j = b) w5) ⟨b, 1, none⟩ (.inl rfl) _
  have hlo : ∀ j u, j < c → b ≠ j → (∀ g, og = some g → g ≠ j) → wc.cell? ⟨j, 0, none⟩ = some u → (w5.setCell ⟨b, 1, none⟩ (.slice oa5 n5 cap5)).cell? ⟨j, 0, none⟩ = some u := by
    intro j u hj hbj hgj hc
    rw [← hc]
    apply World.cell?_of_block
    rw [hu5.block j (by have := hup.size; simp at this; omega) (fun e => hbj e.symm), hup.block j (by simp; omega) (fun e => hgj j e rfl)]
    exact Below.heap_alloc _ _ _ (by omega)
  refine ⟨⟨_, set_store hb5 _, hsl.keeps hu5 (fun g hg e => hne5 (by rw [hg, e])), hne5⟩, ?_, hlo _ _ (by omega) (by omega) (fun g hg => by have := hgl g hg; omega) h.lo, hlo _ _ (by omega) (by omega) (fun g hg => by have := hgl g hg; omega) h.hi, hog⟩
  refine Upd.trans (F := fun _ => False) (G := fun j => j = b ∨ og = some j) (b := (wc.alloc o).drew) ?_ ?_ (fun _ _ x => x.elim) (fun _ _ x => x)
  · exact (Upd.below ((h.below.alloc (by omega) o).drew)).mono (fun i hi x => by omega)
  · exact (hup.mono (fun _ _ x => .inr x)).then (hu5.mono (fun _ _ x => .inl x))
theorem Turned.next {w w1 w2 : World} {b : Nat} {most : Int} {og og1 : Option Nat} {ys : List Rg} (h : Turned w1 b most og1 ys w2) (hu : Upd (fun j => j = b ∨ og = some j) w w1) (hog : og1 = og ∨ ∃ g, og1 = some g ∧ w.heap.size ≤ g) :
    Turned w b most og ys w2 := by
  obtain ⟨og2, hs, ho, hu2⟩ := h
  refine ⟨og2, hs, ?_, hu.trans hu2 (fun _ _ x => x) ?_⟩
  · rcases ho with rfl | rfl | ⟨g, rfl, hg⟩
    · rcases hog with rfl | hx
      · exact .inl rfl
      · exact .inr (.inr hx)
    · exact .inr (.inl rfl)
    · exact .inr (.inr ⟨g, rfl, Nat.le_trans hu.size hg⟩)
  · intro i hi x
    rcases x with x | x
    · exact .inl x
    · rcases hog with rfl | ⟨g, rfl, hg⟩
      · exact .inr x
      · cases x; omega
theorem Turned.cell {w1 w2 : World} {b : Nat} {most : Int} {og1 : Option Nat} {ys : List Rg} (h : Turned w1 b most og1 ys w2) {j : Nat} {u : Value} (hc : w1.cell? ⟨j, 0, none⟩ = some u) (hb : j ≠ b) (hg : og1 ≠ some j) : w2.cell? ⟨j, 0, none⟩ = some u := by
  obtain ⟨og2, hs, ho, hu2⟩ := h
  rw [← hc]
  apply World.cell?_of_block
  exact hu2.block j (cell_in hc) (fun x => x.elim hb (fun x => hg x))
theorem Turned.later {w w1 w2 : World} {b : Nat} {most : Int} {og : Option Nat} {ys : List Rg} (h : Turned w b most og ys w1) (hb : Below w1.heap.size w1 w2) : Turned w b most og ys w2 := by
  obtain ⟨og2, hs, ho, hu⟩ := h
  exact ⟨og2, hs.below hb, ho, hu.trans (Upd.below hb) (fun _ _ x => x) (fun i hi x => by have := hu.size; omega)⟩
theorem Turned.ofBelow {w w1 : World} {b : Nat} {most : Int} {og : Option Nat} {ys : List Rg} (h : SetAt w b most og ys) (hb : Below w.heap.size w w1) : Turned w b most og ys w1 :=
  ⟨og, h.below hb, .inl rfl, (Upd.below hb).mono (fun i hi x => by omega)⟩

theorem minI (a b : Nat) : (if b < a then (b : Int) else (a : Int)) = ((min a b : Nat) : Int) := by split <;> omega
theorem maxI (a b : Nat) : (if a < b then (b : Int) else (a : Int)) = ((max a b : Nat) : Int) := by split <;> omega

set_option maxRecDepth 100000 in
set_option maxHeartbeats 2000000 in
theorem add_yes (b : Nat) (most : Int) (og : Option Nat) (xs : List Rg) (lo hi : Nat) (w : World) (h : SetAt w b most og xs) (hm : 1 ≤ most) (hm2 : most ≤ 9223372036854775807) (hlen : (xs.length + 1) * 16 ≤ 140737488355328) (h1 : lo < hi) (h2 : hi ≤ 4611686018427387904) :
    Calls Try.prog 64 #[.pointer (some ⟨b, 0, none⟩), .int .u64 lo, .int .u64 hi] w fun e w' => e = .returned (.bool ((addL most xs lo hi).any (meetP lo hi))) ∧ Turned w b most og (addL most xs lo hi) w' := by
  obtain ⟨v, hset⟩ := h
  obtain ⟨oa, cap, rfl, hcap, hcap2⟩ := hset.2.1.shape
  have hbl := heap_lt hset.1
  obtain ⟨W, hW⟩ : ∃ W, W = (w.alloc (.cells #[.int .u64 lo] 25)).alloc (.cells #[.int .u64 hi] 25) := ⟨_, rfl⟩
  have hB : Below w.heap.size w W := by rw [hW]; exact ((Below.refl _ _).alloc (Nat.le_refl _) _).alloc (by simp) _
  have hsz : W.heap.size = w.heap.size + 2 := by rw [hW]; simp
  have hset2 : SetIs W b most (.slice oa xs.length cap) og xs := hset.below hB
  have c1 : W.cell? ⟨b, 1, none⟩ = some (.slice oa xs.length cap) := by
    have := cell_at hset2.1 1
    simpa using this
  have cl : W.cell? ⟨w.heap.size, 0, none⟩ = some (.int .u64 lo) := by rw [hW]; simp
  have ch : W.cell? ⟨w.heap.size + 1, 0, none⟩ = some (.int .u64 hi) := by rw [hW]; simp
  have HG0 := Lib.hid (show ∀ g, og = some g → g < w.heap.size from hset.2.1.lt)
  have HSET := Lib.hid hset2
  have HB := Lib.hid hB
  have HSZ := Lib.hid hsz
  clear hset hset2 hB hsz
  generalize hn : xs.length = n at *
  have HN := Lib.hid hn
  clear hn
  have hil := iOf_le xs lo
  go_enter Try.func64, Try.ntmps64
  have HW := Lib.hid hW
  clear hW
  go_upto_block 0 with fail
  rw [← HW.out]
  go_cut [7] (fun i wx => i = .int .i64 (iOf xs lo) ∧ ∃ q, wx = W.drewN q)
  case first =>
    go_wp2_with fail
    go_loopw [7] (fun i wr => ∃ j q : Nat, i = .int .i64 j ∧ j ≤ iOf xs lo ∧ wr = W.drewN q) (fun i _ => n - (intOf i).toNat)
    case atStart => exact ⟨0, 0, rfl, by omega, rfl⟩
    case round =>
      obtain ⟨j, q, rfl, hj, rfl⟩ := hrel
      rw [HN.out] at hil
      by_cases hlt : j < iOf xs lo
      · obtain ⟨r, hr, hr2⟩ := iOf_lt hlt
        obtain ⟨g, hog, rfl, hgl, c2, c3⟩ := HSET.out.2.1.atS hr
        have hjn : (j : Int) < (n : Int) := by omega
        clear hr hog c2
        go_wp2_with fail
        go_quiet (fail)
        go_wp2
        go_roundw
        case rel => exact ⟨j + 1, _, by go_num, by omega, rfl⟩
        case measure => simp [intOf]; omega
      · obtain rfl : j = iOf xs lo := by omega
        generalize hj' : iOf xs lo = j at *
        have HJ := Lib.hid hj'
        clear hj'
        by_cases hjn : j < n
        · obtain ⟨r, hr⟩ : ∃ r, xs[j]? = some r := ⟨_, List.getElem?_eq_getElem (by rw [HN.out]; exact hjn)⟩
          obtain ⟨g, hog, rfl, hgl, c2, c3⟩ := HSET.out.2.1.atS hr
          have hr2 : lo ≤ r.2 := iOf_end (xs := xs) (by rw [HJ.out]; exact hr)
          clear hr hog c2
          go_wp2_with fail
          go_quiet (fail)
          go_wp2
          go_meet
          exact ⟨rfl, _, World.drewN_drewN _ _ _⟩
        · go_wp2_with fail
          go_quiet (fail)
          go_wp2
          go_meet
          exact ⟨rfl, _, World.drewN_drewN _ _ _⟩
  case rest =>
    obtain ⟨rfl, q, hwc⟩ := hcut
    have HSET1 := Lib.hid (show SetIs wc b most (.slice oa n cap) og xs by rw [hwc]; exact HSET.out)
    have HB1 := Lib.hid (show Below w.heap.size w wc by rw [hwc]; exact below_drewN HB.out q)
    have HSZ1 := Lib.hid (show wc.heap.size = w.heap.size + 2 by rw [hwc]; exact HSZ.out)
    replace c1 : wc.cell? ⟨b, 1, none⟩ = some (.slice oa n cap) := by rw [hwc]; exact c1
    replace cl : wc.cell? ⟨w.heap.size, 0, none⟩ = some (.int .u64 lo) := by rw [hwc]; exact cl
    replace ch : wc.cell? ⟨w.heap.size + 1, 0, none⟩ = some (.int .u64 hi) := by rw [hwc]; exact ch
    clear hwc HSET HB HSZ HW
    go_upto_block 2 with fail
    have H0 := Lib.hid (show AddSt w (wc.alloc (.cells #[.int .u64 lo, .int .u64 hi] 92)) b most (.slice oa n cap) og xs lo hi wc.heap.size (lo, hi) from
      ⟨HSET1.out.below ((Below.refl _ _).alloc (Nat.le_refl _) _), Lib.cell?_alloc_some _ cl, Lib.cell?_alloc_some _ ch, alloc_at _ _, HB1.out.alloc (by rw [HSZ1.out]; omega) _, by simp, by rw [HSZ1.out]; omega⟩)
    have hgl : ∀ g, og = some g → g < w.heap.size := HG0.out
    have HGL := Lib.hid hgl
    clear hgl HSET1 HB1 HSZ1 c1 cl ch
    generalize wc.alloc (.cells #[.int .u64 lo, .int .u64 hi] 92) = wd at *
    generalize wc.heap.size = c at *
    have hkl := kOf_le hi (iOf_le xs lo)
    have hkg := kOf_ge xs (iOf xs lo) hi
    rw [HN.out] at hkl hil
    generalize hie : iOf xs lo = i0 at *
    have HIE := Lib.hid hie
    clear hie
    go_cut [9] (fun kv wx => kv = .int .i64 (kOf xs i0 hi) ∧ AddSt w wx b most (.slice oa n cap) og xs lo hi c (fuse (lo, hi) ((xs.take (kOf xs i0 hi)).drop i0)))
    case first =>
      go_wp2_with fail
      go_loopw [9] (fun kv wr => ∃ k : Nat, kv = .int .i64 k ∧ i0 ≤ k ∧ k ≤ kOf xs i0 hi ∧ AddSt w wr b most (.slice oa n cap) og xs lo hi c (fuse (lo, hi) ((xs.take k).drop i0))) (fun kv _ => n - (intOf kv).toNat)
      case atStart => exact ⟨i0, rfl, by omega, hkg, by rw [show (xs.take i0).drop i0 = [] by simp]; exact H0.out⟩
      case round =>
        obtain ⟨k, rfl, hk1, hk2, hst⟩ := hrel
        have HST := Lib.hid hst
        have cb := cell_at hst.set.1 1
        have cl := hst.lo
        have ch := hst.hi
        have cr0 := cell_at hst.cur 0
        have cr1 := cell_at hst.cur 1
        have fr0 := free_at hst.cur 0
        have fr1 := free_at hst.cur 1
        simp at cb cr0 cr1
        clear hst H0
        by_cases hlt : k < kOf xs i0 hi
        · obtain ⟨r, hr, hr2⟩ := kOf_lt hk1 hlt
          obtain ⟨g, hog, rfl, _, c2, c3⟩ := HST.out.set.2.1.atS hr
          have hkn : (k : Int) < (n : Int) := by omega
          have HF := Lib.hid (fuse_step (r := (lo, hi)) hk1 hr)
          have hgc : g ≠ c := fun e => by have h1 := HGL.out g hog; have h2 := HST.out.far; omega
          clear hr hog
          generalize fuse (lo, hi) ((xs.take k).drop i0) = f at *
          go_wp2_with fail
          go_quiet (fail)
          go_wp2_with fail
          go_region
          go_wp2
          go_roundw
          case rel =>
            refine ⟨k + 1, by go_num, by omega, by omega, ?_⟩
            rw [HF.out]
            have hp := (HST.out.drewN (nq + 1)).put hbl HGL.out (min f.1 r.1, max f.2 r.2)
            rw [minI, maxI]
            exact hp
          case measure => simp [intOf]; omega
        · obtain rfl : k = kOf xs i0 hi := by omega
          generalize hke : kOf xs i0 hi = k at *
          have HKE := Lib.hid hke
          clear hke
          by_cases hkn : k < n
          · obtain ⟨r, hr⟩ : ∃ r, xs[k]? = some r := ⟨_, List.getElem?_eq_getElem (by rw [HN.out]; exact hkn)⟩
            obtain ⟨g, hog, rfl, _, c2, c3⟩ := HST.out.set.2.1.atS hr
            have hr2 : hi < r.1 := kOf_end (xs := xs) (by rw [HKE.out]; exact hr)
            clear hr hog c3
            go_wp2_with fail
            go_quiet (fail)
            go_wp2
            go_meet
            exact ⟨rfl, HST.out.drewN _⟩
          · go_wp2_with fail
            go_quiet (fail)
            go_wp2
            go_meet
            exact ⟨rfl, HST.out.drewN _⟩
    case rest =>
      obtain ⟨rfl, hst⟩ := hcut
      generalize hke : kOf xs i0 hi = k at *
      have HKE := Lib.hid hke
      have HST := Lib.hid hst
      have cb := cell_at hst.set.1 1
      have cr0 := cell_at hst.cur 0
      have cr1 := cell_at hst.cur 1
      simp at cb cr0 cr1
      clear hst H0 hke
      generalize hfe : fuse (lo, hi) ((xs.take k).drop i0) = f at *
      have HFE := Lib.hid hfe
      clear hfe
      have hrep := replace_any (.slice oa n cap) og xs i0 k wc.heap.size f (wc.alloc (.cells #[.int .u64 f.1, .int .u64 f.2] 92)).drew
        (by exact HST.out.set.2.1.below ((Below.refl wc.heap.size wc).alloc (Nat.le_refl _) (.cells #[.int .u64 f.1, .int .u64 f.2] 92)).drew) hkg (by rw [HN.out]; exact hkl) (by exact alloc_at _ _)
        (fun e => by have h1 := HGL.out _ e; have h2 := HST.out.size; have h3 := HST.out.far; omega) (by rw [HN.out]; exact hlen)
      have hbw : (wc.alloc (.cells #[.int .u64 f.1, .int .u64 f.2] 92)).drew.heap[b]? = some (.cells #[.int .i64 most, .slice oa n cap] 126 (0, 0)) := alloc_old HST.out.set.1
      have hne := HST.out.set.2.2
      have HREP := Lib.hid (hrep.mono (R' := fun e w5 => ∃ oa5 n5 cap5 og5, e = .returned (.slice oa5 n5 cap5) ∧ Sl w5 (.slice oa5 n5 cap5) og5 (xs.take i0 ++ f :: xs.drop k) ∧
          (og5 = og ∨ ∃ g, og5 = some g ∧ wc.heap.size + 1 ≤ g) ∧ Upd (fun j => og = some j) (wc.alloc (.cells #[.int .u64 f.1, .int .u64 f.2] 92)).drew w5 ∧ w5.cell? ⟨b, 1, none⟩ = some (.slice oa n cap) ∧ w5.frozen? ⟨b, 1, none⟩ = false ∧
          w5.heap[b]? = some (.cells #[.int .i64 most, .slice oa n cap] 126 (0, 0)))
        (by
          rintro e w5 ⟨v5, og5, rfl, hsl, ho, hup⟩
          obtain ⟨oa5, cap5, rfl, _, _⟩ := hsl.shape
          have hb5 := hup.keeps hbw hne
          have cb5 := cell_at hb5 1
          exact ⟨_, _, _, og5, rfl, hsl, by simpa using ho, hup, by simpa using cb5, free_at hb5 1, hb5⟩))
      clear hrep hbw
      have cba := fun o => Lib.cell?_alloc_some o cb
      go_wp2_with fail
      go_region_with (go_at_call 78; refine HREP.out.mono ?_; rintro e w5 ⟨oa5, n5, cap5, og5, rfl, hsl, hog5, hup, cb5, fb5, hb5⟩)
      all_goals (have HF := Lib.hid (add_fin HST.out hbl HGL.out hsl hog5 hup hb5))
      all_goals (have fb6 := cell_at (set_store hb5 (.slice oa5 n5 cap5)) 1)
      all_goals clear hsl hog5 hup cb5 fb5 hb5 cba cb cr0 cr1 HREP HST
      all_goals go_wp2_with fail
      all_goals (refine (trim_any _ _ _ _ _ HF.out.1 hm hm2).mono ?_; rintro e w7 ⟨rfl, ht⟩)
      all_goals (have HT := Lib.hid ht)
      all_goals (have cl7 := Lib.hid (ht.cell HF.out.2.2.1 (by omega) (by rintro rfl; rcases HF.out.2.2.2.2 with hx | ⟨g, hx, hg⟩; (have := HGL.out _ hx.symm; omega); (cases hx; omega))))
      all_goals (have ch7 := Lib.hid (ht.cell HF.out.2.2.2.1 (by omega) (by rintro rfl; rcases HF.out.2.2.2.2 with hx | ⟨g, hx, hg⟩; (have := HGL.out _ hx.symm; omega); (cases hx; omega))))
      all_goals obtain ⟨og7, ⟨v7, hs7⟩, _, _⟩ := ht
      all_goals (have cb7 := cell_at hs7.1 1)
      all_goals simp at cb7
      all_goals (have HS7 := Lib.hid hs7.2.1)
      all_goals clear hs7 fb6
      all_goals go_wp2_with fail
      all_goals (refine (contains_meet lo hi w.heap.size (w.heap.size + 1) v7 og7 _ w7 HS7.out cl7.out ch7.out).mono ?_; rintro e w8 ⟨rfl, hb8⟩)
      all_goals (have HB8 := Lib.hid hb8)
      all_goals (have hadd : addL most xs lo hi = trimL most (xs.take i0 ++ f :: xs.drop k) := by unfold addL addRaw; rw [HIE.out, HKE.out, HFE.out])
      all_goals (have HADD := Lib.hid hadd)
      all_goals clear hadd hb8 cb7
      all_goals go_wp2
      all_goals go_ret
      all_goals rw [HADD.out]
      all_goals exact ⟨rfl, (HT.out.next HF.out.2.1 (HF.out.2.2.2.2.imp id (fun ⟨g, h1, h2⟩ => ⟨g, h1, by omega⟩))).later HB8.out⟩

theorem add_any (b : Nat) (most : Int) (og : Option Nat) (xs : List Rg) (lo hi : Nat) (w : World) (h : SetAt w b most og xs) (hm : 1 ≤ most) (hm2 : most ≤ 9223372036854775807) (hlen : (xs.length + 1) * 16 ≤ 140737488355328) :
    Calls Try.prog 64 #[.pointer (some ⟨b, 0, none⟩), .int .u64 lo, .int .u64 hi] w fun e w' =>
      e = .returned (.bool (if lo < hi ∧ hi ≤ 4611686018427387904 then (addL most xs lo hi).any (meetP lo hi) else false)) ∧ Turned w b most og (if lo < hi ∧ hi ≤ 4611686018427387904 then addL most xs lo hi else xs) w' := by
  by_cases hc : lo < hi ∧ hi ≤ 4611686018427387904
  · simp only [hc, and_self, if_true]
    exact add_yes b most og xs lo hi w h hm hm2 hlen hc.1 hc.2
  · simp only [hc, if_false]
    exact (add_no b lo hi w hc).mono fun e w' ⟨he, hb⟩ => ⟨he, Turned.ofBelow h hb⟩
end Go.Proofs.Ytncfbaabhceeoaa

/- DERIVED. Sets in memory: Gap. -/
namespace Go.Proofs.Ytncfbaabhceeoaa
open Go.RowKit

theorem alloc_set {w : World} {b c : Nat} {o p : Obj} (h : w.heap[b]? = some p) (_hne : b ≠ c) (_hc : c = w.heap.size) : (w.alloc o).heap[b]? = some p := alloc_old h

set_option maxRecDepth 100000 in
set_option maxHeartbeats 400000 in
theorem gap_any (b : Nat) (most : Int) (og : Option Nat) (xs : List Rg) (f t : Nat) (w : World) (h : SetAt w b most og xs) (hf : f < 18446744073709551616) (ht : t < 18446744073709551616) (hx : Norm xs) :
    Calls Try.prog 66 #[.pointer (some ⟨b, 0, none⟩), .int .u64 f, .int .u64 t] w
      fun e w' => e = .returned (.tuple #[.agg #[.int .u64 (gapL xs f t).1.1, .int .u64 (gapL xs f t).1.2], .bool (gapL xs f t).2]) ∧ Below w.heap.size w w' := by
  obtain ⟨v, hb, hs, hne⟩ := h
  have c1 := cell_at hb 1
  simp at c1
  obtain ⟨oa, cap, rfl, hcap, hcap2⟩ := hs.shape
  have HS := Lib.hid hs
  have HX := Lib.hid hx
  clear hb hs hx
  generalize hn : xs.length = len at *
  have HN := Lib.hid hn
  clear hn
  have hW : ∃ W, W = w.alloc (.cells #[.int .u64 0, .int .u64 0] 92) := ⟨_, rfl⟩
  obtain ⟨W, hW⟩ := hW
  have hc1 := Lib.cell?_alloc_some (.cells #[.int .u64 0, .int .u64 0] 92) c1
  rw [← hW] at hc1
  have HB0 := Lib.hid (show Below w.heap.size w W by rw [hW]; exact (Below.refl _ _).alloc (Nat.le_refl _) _)
  have HR0 := Lib.hid (show W.heap[w.heap.size]? = some (.cells #[.int .u64 0, .int .u64 0] 92 (0, 0)) by rw [hW]; exact alloc_at _ _)
  have HW := Lib.hid hW
  clear hW
  have ha := fun o => Lib.cell?_alloc_some o c1
  go_enter Try.func66, Try.ntmps66
  go_upto_block 0 with fail
  rw [← HW.out]
  clear ha c1
  go_cut [1, 2] (fun fv tv wx => fv = .int .u64 (gapF xs f t).1 ∧ tv = .int .u64 (gapF xs f t).2 ∧ (gapF xs f t).1 < 18446744073709551616 ∧ (gapF xs f t).2 < 18446744073709551616 ∧ Below w.heap.size w wx ∧ wx.heap[w.heap.size]? = some (.cells #[.int .u64 0, .int .u64 0] 92 (0, 0)))
  case first =>
    go_wp2_with fail
    go_loopw [1, 2, 15] (fun fv tv i wr => ∃ k a : Nat, i = .int .i64 k ∧ k ≤ len ∧ fv = .int .u64 a ∧ tv = .int .u64 t ∧ a < 18446744073709551616 ∧ gapF (xs.drop k) a t = gapF xs f t ∧ Below w.heap.size w wr ∧ wr.heap[w.heap.size]? = some (.cells #[.int .u64 0, .int .u64 0] 92 (0, 0))) (fun _ _ i _ => len - (intOf i).toNat)
    case atStart => exact ⟨0, f, rfl, by omega, rfl, rfl, hf, rfl, HB0.out, HR0.out⟩
    case round =>
      obtain ⟨k, a, rfl, hk, rfl, rfl, ha, hg, hb, hres⟩ := hrel
      have HG := Lib.hid hg
      have HB := Lib.hid hb
      have HR := Lib.hid hres
      clear hg hb hres
      by_cases hlt : k < len
      · obtain ⟨r, hr⟩ : ∃ r, xs[k]? = some r := ⟨_, List.getElem?_eq_getElem (by rw [HN.out]; exact hlt)⟩
        obtain ⟨hr1, hr2⟩ := HX.out.at hr
        obtain ⟨g, hog, rfl, hgl, c0, c1⟩ := HS.out.atS hr
        have d0 := (HB.out.cell (p := ⟨g, k * 2, none⟩) hgl).trans c0
        have d1 := (HB.out.cell (p := ⟨g, k * 2 + 1, none⟩) hgl).trans c1
        have HD := Lib.hid (drop_at hr)
        clear c0 c1 hog hr hc1
        by_cases h1 : r.2 ≤ a
        · go_wp2
          go_roundw
          case rel =>
            refine ⟨k + 1, a, by go_num, by omega, rfl, rfl, ha, ?_, HB.out.alloc HB.out.size _, alloc_old HR.out⟩
            rw [← HG.out, HD.out, gapF, if_pos h1]
          case measure => simp [intOf]; omega
        · by_cases h2 : a < r.1
          · have e : gapF xs f t = (a, min t r.1) := by rw [← HG.out, HD.out, gapF, if_neg h1, if_pos h2]
            have HE := Lib.hid e
            clear e
            by_cases h3 : r.1 < t
            · go_wp2
              go_meet
              rw [HE.out, show min t r.1 = r.1 by omega]
              exact ⟨rfl, rfl, ha, by simp only []; omega, HB.out.alloc HB.out.size _, alloc_old HR.out⟩
            · go_wp2
              go_meet
              rw [HE.out, show min t r.1 = t by omega]
              exact ⟨rfl, rfl, ha, ht, HB.out.alloc HB.out.size _, alloc_old HR.out⟩
          · go_wp2
            go_roundw
            case rel =>
              refine ⟨k + 1, r.2, by go_num, by omega, rfl, rfl, by omega, ?_, HB.out.alloc HB.out.size _, alloc_old HR.out⟩
              rw [← HG.out, HD.out, gapF, if_neg h1, if_neg h2]
            case measure => simp [intOf]; omega
      · go_wp2
        go_meet
        have e : gapF xs f t = (a, t) := by
          rw [← HG.out, List.drop_eq_nil_of_le (by rw [HN.out]; omega), gapF]
        rw [e]
        exact ⟨rfl, rfl, ha, ht, HB.out, HR.out⟩
  case rest =>
    obtain ⟨rfl, rfl, ha, hb, hB, hR⟩ := hcut
    have hgl : gapL xs f t = if (gapF xs f t).2 ≤ (gapF xs f t).1 then ((0, 0), false) else (gapF xs f t, true) := rfl
    generalize gapF xs f t = ac at *
    obtain ⟨a, c⟩ := ac
    simp only [] at *
    have f0 := free_at hR 0
    have f1 := free_at hR 1
    have c0 := cell_at hR 0
    have c2 := cell_at hR 1
    simp at c0 c2
    have HB := Lib.hid hB
    have HGL := Lib.hid hgl
    clear hB hR HB0 HR0 HW hc1 hgl
    by_cases h1 : c ≤ a
    · go_wp2
      (try simp only [Exit.inBlock, Exit.then])
      refine bodyPost_ret (v := .tuple #[.agg #[.int .u64 0, .int .u64 0], .bool false]) ?_ rfl ⟨?_, ?_⟩
      · rw [results_cell_tmp rfl]
        go_simp
      · rw [HGL.out, if_pos h1]
        rfl
      · exact (HB.out.setCell (p := ⟨w.heap.size, 0, none⟩) (Nat.le_refl _) _).setCell (p := ⟨w.heap.size, 1, none⟩) (Nat.le_refl _) _
    · go_wp2
      (try simp only [Exit.inBlock, Exit.then])
      refine bodyPost_ret (v := .tuple #[.agg #[.int .u64 a, .int .u64 c], .bool true]) ?_ rfl ⟨?_, ?_⟩
      · rw [results_cell_tmp rfl]
        go_simp
      · rw [HGL.out, if_neg h1]
      · exact (HB.out.setCell (p := ⟨w.heap.size, 0, none⟩) (Nat.le_refl _) _).setCell (p := ⟨w.heap.size, 1, none⟩) (Nat.le_refl _) _
end Go.Proofs.Ytncfbaabhceeoaa

/- DERIVED. Walk of outbuf's Acked, where nothing is lost. -/
namespace Go.Proofs.Ytncfbaabhceeoaa
open Go.RowKit

theorem exec_tailK {P : Program} {o : Oper} {w : World} {t e : TypeId} (hu : P.underlying t = some (.slice e)) {i : TypeInfo} (hi : P.info? e = some i) {f : Operand → Value} {x l : Operand} (ho : o.op = .slice t x (some l) none none) {oa : Option Addr} {len cap n : Nat} {kn : IntKind}
    (hx : f x = .slice oa len cap) (hl : f l = .int kn n) (h1 : n ≤ len) (h2 : len ≤ cap) : (execOp f o).run P w = .ok (.value (tailV oa i.size len cap n)) w := by
  simp [execOp, ho, hx, hl, Instr.sliceAt, Instr.slice, run_underlying hu, Instr.sliceBounds, Instr.sliceBound, sizeOf, typeInfo, asIntOf, hi, h1, h2, tailV]
/-- Acknowledged: what becomes of it. -/
def OS.acks (s : OS) (zs : List Rg) (at_ : Nat) : OS := { s with xs := zs, base := at_ }
set_option maxRecDepth 100000 in
set_option maxHeartbeats 2000000 in
theorem oack_any (b : Nat) (s : OS) (fp : Nat → Prop) (off : Nat) (n : Int) (zs : List Rg) (at_ : Nat) (w : World) (h : OAt w b s fp) (ho : off < 18446744073709551616) (hn : -9223372036854775808 ≤ n) (hn2 : n ≤ 9223372036854775807) (hys : s.ys = [])
    (hzs : s.ackX (s.kn off n) = zs) (hnz : Norm zs) (hlz : zs.length ≤ 100000) (hat : atOf zs s.B.length = at_) (hat1 : s.base ≤ at_) (hat2 : at_ ≤ s.B.length) :
    Calls Try.prog 44 #[.pointer (some ⟨b, 0, none⟩), .int .u64 off, .int .i64 n, .bool false] w fun e w' => e = .returned (.tuple #[]) ∧ OM w w' fp b (s.acks zs at_) := by
  obtain ⟨i0, hi0, hz0, hz1, hz2'⟩ := info_parts infoB
  have hlen := h.ok.len
  have hsl := h.ok.sent
  obtain ⟨from_, to_, hkn⟩ : ∃ f t, s.kn off n = (f, t) := ⟨_, _, rfl⟩
  have hto : to_ ≤ s.B.length ∧ from_ ≤ s.B.length := by
    unfold OS.kn at hkn
    simp only [Prod.mk.injEq] at hkn
    omega
  have H := Lib.hid h
  have HY := Lib.hid hys
  have HKN := Lib.hid hkn
  have HZS := Lib.hid (show (if from_ < to_ ∧ to_ ≤ 4611686018427387904 then addL many s.xs from_ to_ else s.xs) = zs by
    rw [← hzs, hkn]
    unfold OS.ackX
    by_cases q : from_ < to_
    · rw [if_pos ⟨q, by omega⟩, if_pos q]
    · rw [if_neg (fun q2 => q q2.1), if_neg q])
  have HNZ := Lib.hid (And.intro hnz hlz)
  have HAT := Lib.hid (And.intro hat (And.intro hat1 hat2))
  clear h hys hkn hzs hnz hlz hat hat1 hat2
  obtain ⟨hto1, hto2⟩ := hto
  go_enter Try.func44, Try.ntmps44
  go_wp2_with fail
  refine (oknown_q b s fp off n _ (by exact H.out) ho hn hn2).mono ?_
  rw [HKN.out]
  rintro e w1 ⟨rfl, q, rfl⟩
  have H1 := Lib.hid ((OM.refl H.out).drewN q)
  generalize w.drewN q = w1 at *
  obtain ⟨fp1, hoa, hw1⟩ := H1.out
  obtain ⟨vb, ob, c, oc, d, od, hO, hfp⟩ := hoa
  rw [hfp] at hw1
  have HO := Lib.hid hO
  have HW := Lib.hid hw1
  have c4 : w1.cell? ⟨b, 4, none⟩ = some (.pointer (some ⟨c, 0, none⟩)) := (cell_at hO.blk 4).trans rfl
  clear hO hfp hw1 H1
  go_wp2_with fail
  refine (add_any c many oc s.xs from_ to_ _ (by exact HO.out.sx) (by decide) (by decide) (by have := HO.out.ok.lx; omega)).mono ?_
  rw [HZS.out]
  rintro e w2 ⟨rfl, ht⟩
  have H2 := Lib.hid (om_turnC HO.out HW.out ht HNZ.out.1 HNZ.out.2)
  clear ht HO HW c4
  obtain ⟨fp2, hoa, hw2⟩ := H2.out
  obtain ⟨vb, ob, c, oc, d, od, hO, hfp⟩ := hoa
  rw [hfp] at hw2
  have HO := Lib.hid hO
  have HW := Lib.hid hw2
  have c5 : w2.cell? ⟨b, 5, none⟩ = some (.pointer (some ⟨d, 0, none⟩)) := (cell_at hO.blk 5).trans rfl
  clear hO hfp hw2 H2
  go_wp2_with fail
  refine (cut_any d many od s.ys from_ to_ _ (by exact HO.out.sy) (by decide) (by decide) (by omega) (by omega) HO.out.ok.ny (by rw [HY.out]; simp)).mono ?_
  rw [HY.out]
  rintro e w3 ⟨rfl, ht⟩
  have hm3 := om_turnD HO.out HW.out ht (show Norm (trimL many (cutRaw from_ to_ [])) from ⟨by simp [trimL, cutRaw], by simp [trimL, cutRaw]⟩) (by simp [trimL, cutRaw])
  rw [show trimL many (cutRaw from_ to_ []) = [] by simp [trimL, cutRaw]] at hm3
  have H3 := Lib.hid hm3
  clear ht HO HW c5 hm3
  obtain ⟨fp3, hoa, hw3⟩ := H3.out
  obtain ⟨vb, ob, c, oc, d, od, hO, hfp⟩ := hoa
  rw [hfp] at hw3
  have HO := Lib.hid hO
  have HW := Lib.hid hw3
  clear hO hfp hw3 H3
  obtain ⟨len, hln⟩ : ∃ len, s.B.length = len := ⟨_, rfl⟩
  have HLE := Lib.hid hln
  rw [hln] at hlen hsl hto1 hto2 HAT
  obtain ⟨lo, hi, ok, hga⟩ : ∃ lo hi ok, gapL zs 0 len = ((lo, hi), ok) := ⟨_, _, _, rfl⟩
  have HGA := Lib.hid hga
  have e2 : w3.cell? ⟨b, 2, none⟩ = some (.int .u64 len) := by rw [cell_at HO.out.blk, ← hln]; rfl
  have HSX := Lib.hid (show SetAt w3.drew c many oc zs from HO.out.sx.below (Below.refl _ _).drew)
  have HSof := Lib.hid (show ∀ W, Below w3.drew.heap.size w3.drew W → W.cell? ⟨b, 4, none⟩ = some (.pointer (some ⟨c, 0, none⟩)) ∧ W.cell? ⟨b, 2, none⟩ = some (.int .u64 len) from fun W h => by
    have hk := below_keeps h (show w3.drew.heap[b]? = _ from HO.out.blk) (heap_lt HO.out.blk)
    refine ⟨(cell_at hk 4).trans rfl, ?_⟩
    rw [cell_at hk, ← hln]
    rfl)
  have HNX := Lib.hid HNZ.out.1
  clear hln hga
  go_upto_region 6 with fail
  go_cut [11, 12] (fun v a wx => ∃ z, v = .pointer (some ⟨z, 0, none⟩) ∧ a = .bool ok ∧ wx.cell? ⟨z, 0, none⟩ = some (.int .u64 lo) ∧ Below w3.drew.heap.size w3.drew wx)
  case first =>
    go_wp2_with fail
    have hb : Below w3.drew.heap.size w3.drew w3.drew := Below.refl _ _
    refine wp_region_till (S := fun w' => w'.cell? ⟨b, 4, none⟩ = some (.pointer (some ⟨c, 0, none⟩)) ∧ w'.cell? ⟨b, 2, none⟩ = some (.int .u64 len)) [] (by kernel_rfl) (by exact HSof.out _ hb) (fun hHeld => ?_)
    refine wpTill_take0 (i := 0) (oi := ⟨some 49, _, _, _, _, _⟩) (v := ?_) rfl (by kernel_rfl) (fun _ _ _ h => h) (Or.inl ⟨by rfl, ?_⟩) (fun _ => hHeld) ?_
    rotate_left
    · intro w hSw
      (try dsimp only at hSw)
      go_simp
      try with_reducible rfl
    try simp only [Act.put, List.setIfInBounds_toArray, List.set_cons_zero, List.set_cons_succ]
    refine wpTill_take0 (i := 1) (oi := ⟨some 50, _, _, _, _, _⟩) (v := ?_) rfl (by kernel_rfl) (fun _ _ _ h => h) (Or.inl ⟨by rfl, ?_⟩) (fun _ => hHeld) ?_
    rotate_left
    · intro w hSw
      (try dsimp only at hSw)
      go_simp
      try with_reducible rfl
    try simp only [Act.put, List.setIfInBounds_toArray, List.set_cons_zero, List.set_cons_succ]
    refine wpTill_take0 (i := 2) (oi := ⟨some 51, _, _, _, _, _⟩) (v := ?_) rfl (by kernel_rfl) (fun _ _ _ h => h) (Or.inl ⟨by rfl, ?_⟩) (fun _ => hHeld) ?_
    rotate_left
    · intro w hSw
      (try dsimp only at hSw)
      go_simp
      try with_reducible rfl
    try simp only [Act.put, List.setIfInBounds_toArray, List.set_cons_zero, List.set_cons_succ]
    refine wpTill_take (i := 3) (oi := ⟨some 52, _, _, _, _, _⟩) (v := ?_) rfl (by kernel_rfl) (fun _ _ _ h => h) (Or.inl ⟨by rfl, ?_⟩) (by exact hHeld) ?_
    rotate_left
    · intro w hSw
      (try dsimp only at hSw)
      go_simp
      try with_reducible rfl
    try simp only [Act.put, List.setIfInBounds_toArray, List.set_cons_zero, List.set_cons_succ]
    refine wpTill_take0 (i := 4) (oi := ⟨some 53, _, _, _, _, _⟩) (v := ?_) rfl (by kernel_rfl) (fun _ _ _ h => h) (Or.inl ⟨by rfl, ?_⟩) (fun _ => hHeld) ?_
    rotate_left
    · intro w hSw
      (try dsimp only at hSw)
      go_simp
      try with_reducible rfl
    try simp only [Act.put, List.setIfInBounds_toArray, List.set_cons_zero, List.set_cons_succ]
    refine wpTill_take0 (i := 5) (oi := ⟨some 54, _, _, _, _, _⟩) (v := ?_) rfl (by kernel_rfl) (fun _ _ _ h => h) (Or.inl ⟨by rfl, ?_⟩) (fun _ => hHeld) ?_
    rotate_left
    · intro w hSw
      (try dsimp only at hSw)
      go_simp
      try with_reducible rfl
    try simp only [Act.put, List.setIfInBounds_toArray, List.set_cons_zero, List.set_cons_succ]
    refine wpTill_take0 (i := 6) (oi := ⟨some 55, _, _, _, _, _⟩) (v := ?_) rfl (by kernel_rfl) (fun _ _ _ h => h) (Or.inl ⟨by rfl, ?_⟩) (fun _ => hHeld) ?_
    rotate_left
    · intro w hSw
      (try dsimp only at hSw)
      go_simp
      try with_reducible rfl
    try simp only [Act.put, List.setIfInBounds_toArray, List.set_cons_zero, List.set_cons_succ]
    refine wpTill_take (i := 7) (oi := ⟨some 56, _, _, _, _, _⟩) (v := ?_) rfl (by kernel_rfl) (fun _ _ _ h => h) (Or.inl ⟨by rfl, ?_⟩) (by exact hHeld) ?_
    rotate_left
    · intro w hSw
      (try dsimp only at hSw)
      go_simp
      try with_reducible rfl
    try simp only [Act.put, List.setIfInBounds_toArray, List.set_cons_zero, List.set_cons_succ]
    refine wpTill_ready (rs := [8, 12]) (by kernel_rfl) (by simp) ?_
    refine AllTill.cons (o := ⟨some 57, _, _, _, _, _⟩) rfl (fun K hK => ?_) ?_
    · go_simp
      go_at_call 66
      refine (gap_any c many oc zs 0 len _ (by exact HSX.out.below hb) (by omega) (by omega) HNX.out).mono ?_
      rw [HGA.out]
      rintro e W8 ⟨rfl, hx8⟩
      have hb := below_call hb hb.size hx8
      go_wp2_with fail
      refine hK.out _ _ (by exact HSof.out _ hb) (fun hHeld => ?_)
      clear hK K
      try simp only [Act.put, List.setIfInBounds_toArray, List.set_cons_zero, List.set_cons_succ]
      refine wpTill_take0 (i := 9) (oi := ⟨some 48, _, _, _, _, _⟩) (v := ?_) rfl (by kernel_rfl) (fun _ _ _ h => h) (Or.inl ⟨by rfl, ?_⟩) (fun _ => hHeld) ?_
      rotate_left
      · intro w hSw
        (try dsimp only at hSw)
        go_simp
        try with_reducible rfl
      try simp only [Act.put, List.setIfInBounds_toArray, List.set_cons_zero, List.set_cons_succ]
      refine wpTill_take0 (i := 10) (oi := ⟨some 58, _, _, _, _, _⟩) (v := ?_) rfl (by kernel_rfl) (fun _ _ _ h => h) (Or.inl ⟨by rfl, ?_⟩) (fun _ => hHeld) ?_
      rotate_left
      · intro w hSw
        (try dsimp only at hSw)
        go_simp
        try with_reducible rfl
      try simp only [Act.put, List.setIfInBounds_toArray, List.set_cons_zero, List.set_cons_succ]
      refine wpTill_take0 (i := 11) (oi := ⟨some 59, _, _, _, _, _⟩) (v := ?_) rfl (by kernel_rfl) (fun _ _ _ h => h) (Or.inl ⟨by rfl, ?_⟩) (fun _ => hHeld) ?_
      rotate_left
      · intro w hSw
        (try dsimp only at hSw)
        go_simp
        try with_reducible rfl
      try simp only [Act.put, List.setIfInBounds_toArray, List.set_cons_zero, List.set_cons_succ]
      refine wpTill_ready (rs := [12]) (by kernel_rfl) (by simp) ?_
      refine AllTill.cons (o := ⟨some 11, _, _, _, _, _⟩) rfl (fun K hK => ?_) AllTill.nil
      go_simp
      have hb8 := hb
      have hb := hb.alloc hb.size (.cells #[.int .u64 0, .int .u64 0] 92)
      refine hK.out _ _ (by exact HSof.out _ hb) (fun hHeld => ?_)
      clear hK K
      try simp only [Act.put, List.setIfInBounds_toArray, List.set_cons_zero, List.set_cons_succ]
      refine wpTill_ready (rs := [13]) (by kernel_rfl) (by simp) ?_
      refine AllTill.cons (o := ⟨none, _, _, _, _, _⟩) rfl (fun K hK => ?_) AllTill.nil
      go_simp
      have hb := hb8.alloc hb8.size (.cells #[.int .u64 lo, .int .u64 hi] 92)
      have hzz := alloc_at W8 (.cells #[.int .u64 lo, .int .u64 hi] 92)
      refine hK.out _ _ (by exact HSof.out _ hb) (fun hHeld => ?_)
      clear hK K
      try simp only [Act.put, List.setIfInBounds_toArray, List.set_cons_zero, List.set_cons_succ]
      refine wpTill_ready (rs := [14]) (by kernel_rfl) (by simp) ?_
      refine AllTill.cons (o := ⟨some 12, _, _, _, _, _⟩) rfl (fun K hK => ?_) AllTill.nil
      go_simp
      refine hK.out _ _ (by exact HSof.out _ hb) (fun hHeld => ?_)
      clear hK K
      try simp only [Act.put, List.setIfInBounds_toArray, List.set_cons_zero, List.set_cons_succ]
      refine wpTill_done (by kernel_rfl) ?_ _
      go_wp2_with fail
      go_meet
      case rel => exact ⟨_, rfl, rfl, (cell_at hzz 0).trans rfl, hb⟩
    refine AllTill.cons (o := ⟨some 11, _, _, _, _, _⟩) rfl (fun K hK => ?_) ?_
    · go_simp
      have hzz : (w3.drew.alloc (.cells #[.int .u64 0, .int .u64 0] 92)).heap[w3.heap.size]? = some (.cells #[.int .u64 0, .int .u64 0] 92 (0, 0)) := alloc_at w3.drew _
      have hz12 : w3.drew.heap.size ≤ w3.heap.size := Nat.le_refl _
      have hb := hb.alloc hb.size (.cells #[.int .u64 0, .int .u64 0] 92)
      refine hK.out _ _ (by exact HSof.out _ hb) (fun hHeld => ?_)
      clear hK K
      try simp only [Act.put, List.setIfInBounds_toArray, List.set_cons_zero, List.set_cons_succ]
      refine wpTill_ready (rs := [8]) (by kernel_rfl) (by simp) ?_
      refine AllTill.cons (o := ⟨some 57, _, _, _, _, _⟩) rfl (fun K hK => ?_) AllTill.nil
      go_simp
      go_at_call 66
      refine (gap_any c many oc zs 0 len _ (by exact HSX.out.below hb) (by omega) (by omega) HNX.out).mono ?_
      rw [HGA.out]
      rintro e W8 ⟨rfl, hx8⟩
      have hb := below_call hb hb.size hx8
      have hzz := below_keeps hx8 hzz (heap_lt hzz)
      go_wp2_with fail
      refine hK.out _ _ (by exact HSof.out _ hb) (fun hHeld => ?_)
      clear hK K
      try simp only [Act.put, List.setIfInBounds_toArray, List.set_cons_zero, List.set_cons_succ]
      refine wpTill_take0 (i := 9) (oi := ⟨some 48, _, _, _, _, _⟩) (v := ?_) rfl (by kernel_rfl) (fun _ _ _ h => h) (Or.inl ⟨by rfl, ?_⟩) (fun _ => hHeld) ?_
      rotate_left
      · intro w hSw
        (try dsimp only at hSw)
        go_simp
        try with_reducible rfl
      try simp only [Act.put, List.setIfInBounds_toArray, List.set_cons_zero, List.set_cons_succ]
      refine wpTill_take0 (i := 10) (oi := ⟨some 58, _, _, _, _, _⟩) (v := ?_) rfl (by kernel_rfl) (fun _ _ _ h => h) (Or.inl ⟨by rfl, ?_⟩) (fun _ => hHeld) ?_
      rotate_left
      · intro w hSw
        (try dsimp only at hSw)
        go_simp
        try with_reducible rfl
      try simp only [Act.put, List.setIfInBounds_toArray, List.set_cons_zero, List.set_cons_succ]
      refine wpTill_take0 (i := 11) (oi := ⟨some 59, _, _, _, _, _⟩) (v := ?_) rfl (by kernel_rfl) (fun _ _ _ h => h) (Or.inl ⟨by rfl, ?_⟩) (fun _ => hHeld) ?_
      rotate_left
      · intro w hSw
        (try dsimp only at hSw)
        go_simp
        try with_reducible rfl
      try simp only [Act.put, List.setIfInBounds_toArray, List.set_cons_zero, List.set_cons_succ]
      refine wpTill_ready (rs := [13]) (by kernel_rfl) (by simp) ?_
      refine AllTill.cons (o := ⟨none, _, _, _, _, _⟩) rfl (fun K hK => ?_) AllTill.nil
      have z0 := cell_at hzz 0
      have z1 := cell_at hzz 1
      have y0 := free_at hzz 0
      have y1 := free_at hzz 1
      go_simp
      have hb := (hb.setCell (p := ⟨w3.heap.size, 0, none⟩) hz12 (.int .u64 lo)).setCell (p := ⟨w3.heap.size, 1, none⟩) hz12 (.int .u64 hi)
      have hzz := set_at (set_at hzz 0 (.int .u64 lo)) 1 (.int .u64 hi)
      refine hK.out _ _ (by exact HSof.out _ hb) (fun hHeld => ?_)
      clear hK K
      try simp only [Act.put, List.setIfInBounds_toArray, List.set_cons_zero, List.set_cons_succ]
      refine wpTill_ready (rs := [14]) (by kernel_rfl) (by simp) ?_
      refine AllTill.cons (o := ⟨some 12, _, _, _, _, _⟩) rfl (fun K hK => ?_) AllTill.nil
      go_simp
      refine hK.out _ _ (by exact HSof.out _ hb) (fun hHeld => ?_)
      clear hK K
      try simp only [Act.put, List.setIfInBounds_toArray, List.set_cons_zero, List.set_cons_succ]
      refine wpTill_done (by kernel_rfl) ?_ _
      go_wp2_with fail
      go_meet
      case rel => exact ⟨_, rfl, rfl, (cell_at hzz 0).trans rfl, hb⟩
    exact AllTill.nil
  case rest =>
    obtain ⟨z, rfl, rfl, hz0, hb4⟩ := hcut
    generalize wc = w4 at *
    have hb34 : Below w3.heap.size w3 w4 := below_call (Below.refl _ _).drew (Nat.le_refl _) hb4
    have HO4 := Lib.hid (HO.out.below hb34)
    have HW4 := Lib.hid (HW.out.later hb34)
    have hatv : (if ok then lo else len) = at_ := by
      have := HAT.out.1
      unfold atOf at this
      rw [HGA.out] at this
      exact this
    obtain ⟨_, hat1, hat2⟩ := HAT.out
    clear hb4 hb34 HSof HSX HO HW e2
    go_upto_if 60 with fail
    go_cut [10] (fun v wx => v = .int .u64 at_ ∧ wx = w4)
    case first =>
      cases ok
      · simp at hatv
        subst hatv
        go_wp2_with fail
        go_meet
        case rel => exact ⟨rfl, rfl⟩
      · simp at hatv
        subst hatv
        go_wp2_with fail
        go_meet
        case rel => exact ⟨rfl, rfl⟩
    case rest =>
      obtain ⟨rfl, rfl⟩ := hcut
      clear hatv hz0
      generalize wc = w4 at *
      obtain ⟨oB, cB, e0, hcB, hcB2⟩ := HO4.out.row.shape
      have HBS := Lib.hid (show ({ s with xs := zs, ys := [] } : OS).base = s.base from rfl)
      obtain ⟨base, hbase⟩ : ∃ base, s.base = base := ⟨_, rfl⟩
      have HBA := Lib.hid hbase
      obtain ⟨n0, hn0⟩ : ∃ n0, len - base = n0 := ⟨_, rfl⟩
      have hdl : (s.B.drop s.base).length = n0 := by rw [List.length_drop, HLE.out, hbase]; exact hn0
      rw [show ((({ s with xs := zs, ys := [] } : OS).B.drop ({ s with xs := zs, ys := [] } : OS).base)).length = n0 from hdl] at e0 hcB
      subst e0
      rw [hbase] at hat1
      obtain ⟨l, hl, hl2⟩ : ∃ l : Nat, (at_ : Int) - (base : Int) = (l : Int) ∧ at_ - base = l := ⟨at_ - base, by omega, rfl⟩
      have hln0 : l ≤ n0 := by omega
      have hwl : IntKind.u64.wrap (l : Int) = l := IntWalk.u64_in _ (by omega)
      have HBK4 := Lib.hid (show w4.drew.heap[b]? = some (.cells #[.slice oB n0 cB, .int .u64 base, .int .u64 s.B.length, .int .u64 s.sent, .pointer (some ⟨c, 0, none⟩), .pointer (some ⟨d, 0, none⟩), .bool s.fi, .bool s.es, .bool s.ea, .bool s.el] 107 (0, 0)) from by
        rw [← hbase]
        exact HO4.out.blk)
      have HRT := Lib.hid (show ∃ og', SlO encB 1 5 w4.drew (tailV oB 1 n0 cB l) og' (s.B.drop at_) ∧ (og' = ob ∨ og' = none) from by
        obtain ⟨og', h1, h2⟩ := SlO.tail (HO4.out.row.below (Below.refl _ _).drew) hln0
        refine ⟨og', ?_, h2⟩
        have e : (s.B.drop s.base).drop l = s.B.drop at_ := by rw [List.drop_drop, hbase, show base + l = at_ by omega]
        rw [← e]
        exact h1)
      have HFIN := Lib.hid (show OM w ((w4.drew.setCell ⟨b, 0, none⟩ (tailV oB 1 n0 cB l)).setCell ⟨b, 1, none⟩ (.int .u64 (at_ : Nat))) fp b (s.acks zs at_) from by
        obtain ⟨og', h1, h2⟩ := HRT.out
        have ho := HO4.out.ok
        refine om_set (s' := s.acks zs at_) (HO4.out.below (Below.refl _ _).drew) (HW4.out.later (Below.refl _ _).drew) (Upd.refl _ _) (((Upd.refl (fun j => j = b) w4.drew).setCell ⟨b, 0, none⟩ (.inl rfl) _).setCell ⟨b, 1, none⟩ (.inl rfl) _) (set_at (set_at HBK4.out 0 (tailV oB 1 n0 cB l)) 1 (.int .u64 (at_ : Nat))) h1 (h2.imp id .inl) rfl ?_ ⟨ho.len, by show at_ ≤ s.B.length; rw [HLE.out]; exact hat2, ho.sent, ho.nx, ?_, ho.lx, ?_, ho.bys⟩
        · exact HY.out
        · show Norm s.ys
          rw [HY.out]
          exact ⟨by simp, by simp⟩
        · show s.ys.length ≤ 100000
          rw [HY.out]
          simp)
      obtain ⟨oT, hT⟩ : ∃ oT, tailV oB 1 n0 cB l = .slice oT (n0 - l) (cB - l) := ⟨_, rfl⟩
      rw [hT] at HFIN
      have HTT := Lib.hid hT
      have e1 : w4.cell? ⟨b, 1, none⟩ = some (.int .u64 base) := (cell_at (show w4.heap[b]? = _ from HBK4.out) 1).trans rfl
      have q1 : w4.frozen? ⟨b, 1, none⟩ = false := free_at (show w4.heap[b]? = _ from HBK4.out) 1
      clear hdl hn0 hl2 hat1 hat2 hbase hT HRT
      go_wp2_with fail
      refine wp_region_till (S := fun w' => w'.cell? ⟨b, 0, none⟩ = some (.slice oB n0 cB) ∧ w'.cell? ⟨b, 1, none⟩ = some (.int .u64 base)) [14] (by kernel_rfl) (by exact ⟨(cell_at HBK4.out 0).trans rfl, (cell_at HBK4.out 1).trans rfl⟩) (fun hHeld => ?_)
      refine wpTill_take0 (i := 0) (oi := ⟨some 63, _, _, _, _, _⟩) (v := ?_) rfl (by kernel_rfl) (fun _ _ _ h => h) (Or.inl ⟨by rfl, ?_⟩) (fun _ => hHeld) ?_
      rotate_left
      · intro w hSw
        (try dsimp only at hSw)
        go_simp
        try with_reducible rfl
      try simp only [Act.put, List.setIfInBounds_toArray, List.set_cons_zero, List.set_cons_succ]
      refine wpTill_take0 (i := 1) (oi := ⟨some 64, _, _, _, _, _⟩) (v := ?_) rfl (by kernel_rfl) (fun _ _ _ h => h) (Or.inl ⟨by rfl, ?_⟩) (fun _ => hHeld) ?_
      rotate_left
      · intro w hSw
        (try dsimp only at hSw)
        go_simp
        try with_reducible rfl
      try simp only [Act.put, List.setIfInBounds_toArray, List.set_cons_zero, List.set_cons_succ]
      refine wpTill_take0 (i := 2) (oi := ⟨some 65, _, _, _, _, _⟩) (v := ?_) rfl (by kernel_rfl) (fun _ _ _ h => h) (Or.inl ⟨by rfl, ?_⟩) (fun _ => hHeld) ?_
      rotate_left
      · intro w hSw
        (try dsimp only at hSw)
        go_simp
        try with_reducible rfl
      try simp only [Act.put, List.setIfInBounds_toArray, List.set_cons_zero, List.set_cons_succ]
      refine wpTill_take0 (i := 3) (oi := ⟨some 66, _, _, _, _, _⟩) (v := ?_) rfl (by kernel_rfl) (fun _ _ _ h => h) (Or.inl ⟨by rfl, ?_⟩) (fun _ => hHeld) ?_
      rotate_left
      · intro w hSw
        (try dsimp only at hSw)
        go_simp
        try with_reducible rfl
      try simp only [Act.put, List.setIfInBounds_toArray, List.set_cons_zero, List.set_cons_succ]
      refine wpTill_take (i := 4) (oi := ⟨some 67, _, _, _, _, _⟩) (v := ?_) rfl (by kernel_rfl) (fun _ _ _ h => h) (Or.inl ⟨by rfl, ?_⟩) (by exact hHeld) ?_
      rotate_left
      · intro w hSw
        (try dsimp only at hSw)
        go_simp
        try with_reducible rfl
      try simp only [Act.put, List.setIfInBounds_toArray, List.set_cons_zero, List.set_cons_succ]
      refine wpTill_take0 (i := 5) (oi := ⟨some 68, _, _, _, _, _⟩) (v := ?_) rfl (by kernel_rfl) (fun _ _ _ h => h) (Or.inl ⟨by rfl, ?_⟩) (fun _ => hHeld) ?_
      rotate_left
      · intro w hSw
        (try dsimp only at hSw)
        go_simp
        try with_reducible rfl
      try simp only [Act.put, List.setIfInBounds_toArray, List.set_cons_zero, List.set_cons_succ]
      refine wpTill_take0 (i := 6) (oi := ⟨some 69, _, _, _, _, _⟩) (v := ?_) rfl (by kernel_rfl) (fun _ _ _ h => h) (Or.inl ⟨by rfl, ?_⟩) (fun _ => hHeld) ?_
      rotate_left
      · intro w hSw
        (try dsimp only at hSw)
        go_simp
        try with_reducible rfl
      try simp only [Act.put, List.setIfInBounds_toArray, List.set_cons_zero, List.set_cons_succ]
      refine wpTill_take0 (i := 7) (oi := ⟨some 70, _, _, _, _, _⟩) (v := ?_) rfl (by kernel_rfl) (fun _ _ _ h => h) (Or.inl ⟨by rfl, ?_⟩) (fun _ => hHeld) ?_
      rotate_left
      · intro w hSw
        (try dsimp only at hSw)
        go_simp
        try with_reducible rfl
      try simp only [Act.put, List.setIfInBounds_toArray, List.set_cons_zero, List.set_cons_succ]
      refine wpTill_take0 (i := 8) (oi := ⟨some 71, _, _, _, _, _⟩) (v := ?_) rfl (by kernel_rfl) (fun _ _ _ h => h) (Or.inl ⟨by rfl, ?_⟩) (fun _ => hHeld) ?_
      rotate_left
      · intro w hSw
        (try dsimp only at hSw)
        go_simp
        try with_reducible rfl
      try simp only [Act.put, List.setIfInBounds_toArray, List.set_cons_zero, List.set_cons_succ]
      refine wpTill_take (i := 9) (oi := ⟨some 72, _, _, _, _, _⟩) (v := ?_) rfl (by kernel_rfl) (fun _ _ _ h => h) (Or.inl ⟨by rfl, ?_⟩) (by exact hHeld) ?_
      rotate_left
      · intro w hSw
        (try dsimp only at hSw)
        go_simp
        try with_reducible rfl
      try simp only [Act.put, List.setIfInBounds_toArray, List.set_cons_zero, List.set_cons_succ]
      refine wpTill_take0 (i := 10) (oi := ⟨some 73, _, _, _, _, _⟩) (v := ?_) rfl (by kernel_rfl) (fun _ _ _ h => h) (Or.inl ⟨by rfl, ?_⟩) (fun _ => hHeld) ?_
      rotate_left
      · intro w hSw
        (try dsimp only at hSw)
        go_simp
        try with_reducible rfl
      try simp only [Act.put, List.setIfInBounds_toArray, List.set_cons_zero, List.set_cons_succ]
      refine wpTill_take0 (i := 11) (oi := ⟨some 74, _, _, _, _, _⟩) (v := .slice oT (n0 - l) (cB - l)) rfl (by kernel_rfl) (fun _ _ _ h => h) (Or.inl ⟨by rfl, ?_⟩) (fun _ => hHeld) ?_
      · intro w hSw
        refine Eq.trans (exec_tailK Try.underlying36 hi0 rfl rfl rfl hln0 hcB) ?_
        rw [hz1, HTT.out]
      try simp only [Act.put, List.setIfInBounds_toArray, List.set_cons_zero, List.set_cons_succ]
      refine wpTill_take0 (i := 12) (oi := ⟨some 75, _, _, _, _, _⟩) (v := ?_) rfl (by kernel_rfl) (fun _ _ _ h => h) (Or.inl ⟨by rfl, ?_⟩) (fun _ => hHeld) ?_
      rotate_left
      · intro w hSw
        (try dsimp only at hSw)
        go_simp
        try with_reducible rfl
      try simp only [Act.put, List.setIfInBounds_toArray, List.set_cons_zero, List.set_cons_succ]
      refine wpTill_take0 (i := 13) (oi := ⟨some 76, _, _, _, _, _⟩) (v := ?_) rfl (by kernel_rfl) (fun _ _ _ h => h) (Or.inl ⟨by rfl, ?_⟩) (fun _ => hHeld) ?_
      rotate_left
      · intro w hSw
        (try dsimp only at hSw)
        go_simp
        try with_reducible rfl
      try simp only [Act.put, List.setIfInBounds_toArray, List.set_cons_zero, List.set_cons_succ]
      refine wpTill_ready (rs := [14]) (by kernel_rfl) (by simp) ?_
      refine AllTill.consD (o := ⟨none, _, _, _, _, _⟩) rfl (by kernel_rfl) (fun K hK => ?_) AllTill.nil
      have e0 := cell_at HBK4.out 0
      have q0 := free_at HBK4.out 0
      go_simp
      refine hK.out _ _ ?_
      clear hK K
      try simp only [Act.put, List.setIfInBounds_toArray, List.set_cons_zero, List.set_cons_succ]
      refine wpTill_done (by kernel_rfl) ?_ _
      go_wp2_with fail
      go_end0
      exact ⟨rfl, HFIN.out⟩
end Go.Proofs.Ytncfbaabhceeoaa

/- DERIVED. Walks of outbuf: part where something is lost; Finish; Whole. -/
namespace Go.Proofs.Ytncfbaabhceeoaa
open Go.RowKit

set_option maxRecDepth 100000 in
set_option maxHeartbeats 1000000 in
theorem opart_cons (b : Nat) (s : OS) (fp : Nat → Prop) (limit : Nat) (r : Rg) (rest : List Rg) (w : World) (h : OAt w b s fp) (hys : s.ys = r :: rest) :
    Calls Try.prog 57 #[.pointer (some ⟨b, 0, none⟩), .int .u64 limit] w fun e w' => e = .returned (.tuple #[.int .u64 r.1, .int .u64 r.2]) ∧ Below w.heap.size w w' := by
  obtain ⟨vb, ob, c, oc, d, od, hO, hfp⟩ := h
  have c5 : w.cell? ⟨b, 5, none⟩ = some (.pointer (some ⟨d, 0, none⟩)) := (cell_at hO.blk 5).trans rfl
  have HO := Lib.hid hO
  have HY := Lib.hid hys
  clear hO hfp hys
  go_enter Try.func57, Try.ntmps57
  go_wp2_with fail
  refine (all_any d many od s.ys _ (by exact HO.out.sy) (by have := HO.out.ok.ly; omega)).mono ?_
  rw [HY.out]
  rintro e w1 ⟨v, og, rfl, hs, hnew, hb⟩
  obtain ⟨oa, cap, rfl, hc1, hc2⟩ := hs.shape
  have HB := Lib.hid hb
  obtain ⟨g, hg, rfl, hgl, q0, q1⟩ := hs.atS (i := 0) (r := r) rfl
  rw [Nat.zero_mul] at q0 q1
  have hln : 0 < (r :: rest).length := by simp
  clear hs hb hnew c5 hg
  generalize (r :: rest).length = ln at *
  have HB1 := Lib.hid (HB.out.alloc HB.out.size (.cells #[.int .u64 r.1, .int .u64 r.2] 92))
  go_wp2_with fail
  go_loopw [14] (fun i wr => i = .int .i64 0 ∧ wr = w1) (fun _ _ => 0)
  case atStart => exact ⟨rfl, rfl⟩
  case round =>
    obtain ⟨rfl, rfl⟩ := hrel
    go_wp2_with fail
    go_quiet (fail)
    go_wp2_with fail
    go_ret2
    exact ⟨rfl, below_drewN HB1.out _⟩
set_option maxRecDepth 100000 in
set_option maxHeartbeats 1000000 in
theorem ofinish_any (b : Nat) (s : OS) (fp : Nat → Prop) (w : World) (h : OAt w b s fp) :
    Calls Try.prog 37 #[.pointer (some ⟨b, 0, none⟩)] w fun e w' => e = .returned (.bool (!s.fi)) ∧ OM w w' fp b { s with fi := true } := by
  obtain ⟨vb, ob, c, oc, d, od, hO, hfp⟩ := h
  have c6 : w.cell? ⟨b, 6, none⟩ = some (.bool s.fi) := (cell_at hO.blk 6).trans rfl
  have f6 := free_at hO.blk 6
  have HM := Lib.hid (show OM w (w.setCell ⟨b, 6, none⟩ (.bool true)) fp b { s with fi := true } from by
    rw [hfp]
    exact om_set (s' := { s with fi := true }) hO (Went.refl _ _) (Upd.refl _ _) ((Upd.refl (fun j => j = b) w).setCell ⟨b, 6, none⟩ (.inl rfl) _) (set_at hO.blk 6 _) hO.row (.inl rfl) rfl rfl ⟨hO.ok.len, hO.ok.base, hO.ok.sent, hO.ok.nx, hO.ok.ny, hO.ok.lx, hO.ok.ly, hO.ok.bys⟩)
  clear hO hfp
  generalize s.fi = fi at c6 ⊢
  cases fi
  all_goals go_enter Try.func37, Try.ntmps37
  all_goals go_wp2_with fail
  all_goals go_ret
  all_goals exact ⟨rfl, HM.out⟩
set_option maxRecDepth 100000 in
set_option maxHeartbeats 1000000 in
theorem owhole_q (b : Nat) (s : OS) (fp : Nat → Prop) (w : World) (h : OAt w b s fp) :
    Calls Try.prog 45 #[.pointer (some ⟨b, 0, none⟩)] w fun e w' => e = .returned (.bool (s.fi && s.ea && decide (s.base = s.B.length))) ∧ ∃ n, w' = w.drewN n := by
  obtain ⟨c1, c2, _, c6, _, c8, _⟩ := h.cells
  generalize s.fi = fi at *
  generalize s.ea = ea at *
  generalize s.base = base at *
  generalize s.B.length = len at *
  clear h
  cases fi
  all_goals cases ea
  all_goals by_cases hb : base = len
  all_goals try subst hb
  all_goals go_enter Try.func45, Try.ntmps45
  all_goals go_wp2_with fail
  all_goals try go_quiet (fail)
  all_goals try go_wp2_with fail
  all_goals go_ret
  all_goals first
    | exact ⟨by simp [eqN], _, rfl⟩
    | exact ⟨rfl, 0, rfl⟩
    | exact ⟨by simp, 0, rfl⟩
    | exact ⟨by simp; omega, 0, rfl⟩
    | exact ⟨by simp, _, rfl⟩
    | exact ⟨by simp; omega, _, rfl⟩
    | exact ⟨by simp; rw [eqN], _, rfl⟩
end Go.Proofs.Ytncfbaabhceeoaa
