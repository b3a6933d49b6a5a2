/- DERIVED. Walks of a set's Has and Add. -/
import Derived.Deep.RegionWith
import Derived.Deep.CutBlock
import Derived.Deep.DeepCutAuto
import Derived.Test.YtebiebcpdjipjaaQ3
import Derived.Test.YtebiebcpdjipjaaQ4
import Derived.Test.YtebiebcpdjipjaaQ5
namespace Go.Proofs.Ytebiebcpdjipjaa
open Go.RowKit
set_option maxRecDepth 100000 in
set_option maxHeartbeats 1000000 in
theorem add_no (b lo hi : Nat) (w : World) (h : ¬ (lo < hi ∧ hi ≤ 4611686018427387904)) :
    Calls Try.prog 44 #[.pointer (some ⟨b, 0, none⟩), .int .u64 lo, .int .u64 hi] w fun e w' => e = .returned (.bool false) ∧ Below w.heap.size w w' := by
  rcases (by omega : hi ≤ lo ∨ (lo < hi ∧ 4611686018427387904 < hi)) with h | ⟨h1, h2⟩
  all_goals
    go_enter Try.func44, Try.ntmps44
    go_wp2
    go_ret
    exact ⟨rfl, ((Below.refl _ _).alloc (Nat.le_refl _) _).alloc (by simp) _⟩


/-- The state behind the first search: the set as it was, the two boxes, the range that grows. -/
structure AddSt (w wx : World) (b : Nat) (most : Int) (v : Value) (og : Option Nat) (xs : List Rg) (lo hi c : Nat) (r : Rg) : Prop where
  set : SetIs wx b most v og xs
  lo : wx.cell? ⟨w.heap.size, 0, none⟩ = some (.int .u64 lo)
  hi : wx.cell? ⟨w.heap.size + 1, 0, none⟩ = some (.int .u64 hi)
  cur : wx.heap[c]? = some (.cells #[.int .u64 r.1, .int .u64 r.2] 93 (0, 0))
  below : Below w.heap.size w wx
  size : wx.heap.size = c + 1
  far : w.heap.size + 1 < c
theorem AddSt.drewN {w wx : World} {b : Nat} {most : Int} {v : Value} {og : Option Nat} {xs : List Rg} {lo hi c : Nat} {r : Rg} (h : AddSt w wx b most v og xs lo hi c r) (n : Nat) : AddSt w (wx.drewN n) b most v og xs lo hi c r :=
  ⟨h.set, h.lo, h.hi, h.cur, below_drewN h.below n, h.size, h.far⟩
theorem AddSt.put {w wx : World} {b : Nat} {most : Int} {v : Value} {og : Option Nat} {xs : List Rg} {lo hi c : Nat} {r : Rg} (h : AddSt w wx b most v og xs lo hi c r) (hb : b < w.heap.size) (hg : ∀ g, og = some g → g < w.heap.size) (r' : Rg) :
    AddSt w ((wx.setCell ⟨c, 0, none⟩ (.int .u64 r'.1)).setCell ⟨c, 1, none⟩ (.int .u64 r'.2)) b most v og xs lo hi c r' := by
  have hu : Upd (fun j => j = c) wx ((wx.setCell ⟨c, 0, none⟩ (.int .u64 r'.1)).setCell ⟨c, 1, none⟩ (.int .u64 r'.2)) :=
    Upd.setCell (Upd.setCell (Upd.refl (fun j => j = c) wx) ⟨c, 0, none⟩ (.inl rfl) _) ⟨c, 1, none⟩ (.inl rfl) _
  have hf := h.far
  have hcell : ∀ j o, j ≠ c → ((wx.setCell ⟨c, 0, none⟩ (.int .u64 r'.1)).setCell ⟨c, 1, none⟩ (.int .u64 r'.2)).cell? ⟨j, o, none⟩ = wx.cell? ⟨j, o, none⟩ := fun j o hj => by
    apply World.cell?_of_block
    rw [Below.heap_setCell _ _ _ _ hj, Below.heap_setCell _ _ _ _ hj]
  refine ⟨h.set.keeps hu (by omega) (fun g hg' => by have := hg g hg'; omega), by rw [hcell _ _ (by omega)]; exact h.lo, by rw [hcell _ _ (by omega)]; exact h.hi, ?_, Upd.onto h.below hu (by rw [h.size]; omega) (by intro j h1 h2; omega), by simp [World.setCell, h.size], h.far⟩
  rw [set_at (set_at h.cur 0 _) 1 _]
  rfl

/-- Behind Replace and the store: what is known, as the trim is called. -/
theorem add_fin {w wc w5 : World} {b : Nat} {most : Int} {v : Value} {og og5 : Option Nat} {xs ys : List Rg} {lo hi c : Nat} {f : Rg} {oa5 : Option Addr} {n5 cap5 : Nat} {o : Obj} (h : AddSt w wc b most v og xs lo hi c f) (hb : b < w.heap.size) (hgl : ∀ g, og = some g → g < w.heap.size)
    (hsl : Sl w5 (.slice oa5 n5 cap5) og5 ys) (hog5 : og5 = og ∨ ∃ g, og5 = some g ∧ wc.heap.size + 1 ≤ g) (hup : Upd (fun j => og = some j) (wc.alloc o).drew w5) (hb5 : w5.heap[b]? = some (.cells #[.int .i64 most, v] 98 (0, 0))) :
    SetAt (w5.setCell ⟨b, 1, none⟩ (.slice oa5 n5 cap5)) b most og5 ys ∧ Upd (fun j => j = b ∨ og = some j) w (w5.setCell ⟨b, 1, none⟩ (.slice oa5 n5 cap5)) ∧
      (w5.setCell ⟨b, 1, none⟩ (.slice oa5 n5 cap5)).cell? ⟨w.heap.size, 0, none⟩ = some (.int .u64 lo) ∧ (w5.setCell ⟨b, 1, none⟩ (.slice oa5 n5 cap5)).cell? ⟨w.heap.size + 1, 0, none⟩ = some (.int .u64 hi) ∧
      (og5 = og ∨ ∃ g, og5 = some g ∧ w.heap.size + 2 ≤ g) := by
  have hsz := h.size
  have hfar := h.far
  have hog : og5 = og ∨ ∃ g, og5 = some g ∧ w.heap.size + 2 ≤ g := by
    rcases hog5 with hx | ⟨g, hx, hg⟩
    · exact .inl hx
    · exact .inr ⟨g, hx, by omega⟩
  have hne5 : og5 ≠ some b := by
    rintro rfl
    rcases hog with hx | ⟨g, hx, hg⟩
    · exact h.set.2.2 hx.symm
    · cases hx; omega
  have hu5 : Upd (fun j => j = b) w5 (w5.setCell ⟨b, 1, none⟩ (.slice oa5 n5 cap5)) := Upd.setCell (Upd.refl (fun j => j = b) w5) ⟨b, 1, none⟩ (.inl rfl) _
  have hlo : ∀ j u, j < c → b ≠ j → (∀ g, og = some g → g ≠ j) → wc.cell? ⟨j, 0, none⟩ = some u → (w5.setCell ⟨b, 1, none⟩ (.slice oa5 n5 cap5)).cell? ⟨j, 0, none⟩ = some u := by
    intro j u hj hbj hgj hc
    rw [← hc]
    apply World.cell?_of_block
    rw [hu5.block j (by have := hup.size; simp at this; omega) (fun e => hbj e.symm), hup.block j (by simp; omega) (fun e => hgj j e rfl)]
    exact Below.heap_alloc _ _ _ (by omega)
  refine ⟨⟨_, set_store hb5 _, hsl.keeps hu5 (fun g hg e => hne5 (by rw [hg, e])), hne5⟩, ?_, hlo _ _ (by omega) (by omega) (fun g hg => by have := hgl g hg; omega) h.lo, hlo _ _ (by omega) (by omega) (fun g hg => by have := hgl g hg; omega) h.hi, hog⟩
  refine Upd.trans (F := fun _ => False) (G := fun j => j = b ∨ og = some j) (b := (wc.alloc o).drew) ?_ ?_ (fun _ _ x => x.elim) (fun _ _ x => x)
  · exact (Upd.below ((h.below.alloc (by omega) o).drew)).mono (fun i hi x => by omega)
  · exact (hup.mono (fun _ _ x => .inr x)).then (hu5.mono (fun _ _ x => .inl x))
theorem Turned.next {w w1 w2 : World} {b : Nat} {most : Int} {og og1 : Option Nat} {ys : List Rg} (h : Turned w1 b most og1 ys w2) (hu : Upd (fun j => j = b ∨ og = some j) w w1) (hog : og1 = og ∨ ∃ g, og1 = some g ∧ w.heap.size ≤ g) :
    Turned w b most og ys w2 := by
  obtain ⟨og2, hs, ho, hu2⟩ := h
  refine ⟨og2, hs, ?_, hu.trans hu2 (fun _ _ x => x) ?_⟩
  · rcases ho with rfl | rfl | ⟨g, rfl, hg⟩
    · rcases hog with rfl | hx
      · exact .inl rfl
      · exact .inr (.inr hx)
    · exact .inr (.inl rfl)
    · exact .inr (.inr ⟨g, rfl, Nat.le_trans hu.size hg⟩)
  · intro i hi x
    rcases x with x | x
    · exact .inl x
    · rcases hog with rfl | ⟨g, rfl, hg⟩
      · exact .inr x
      · cases x; omega
theorem Turned.cell {w1 w2 : World} {b : Nat} {most : Int} {og1 : Option Nat} {ys : List Rg} (h : Turned w1 b most og1 ys w2) {j : Nat} {u : Value} (hc : w1.cell? ⟨j, 0, none⟩ = some u) (hb : j ≠ b) (hg : og1 ≠ some j) : w2.cell? ⟨j, 0, none⟩ = some u := by
  obtain ⟨og2, hs, ho, hu2⟩ := h
  rw [← hc]
  apply World.cell?_of_block
  exact hu2.block j (cell_in hc) (fun x => x.elim hb (fun x => hg x))
theorem Turned.later {w w1 w2 : World} {b : Nat} {most : Int} {og : Option Nat} {ys : List Rg} (h : Turned w b most og ys w1) (hb : Below w1.heap.size w1 w2) : Turned w b most og ys w2 := by
  obtain ⟨og2, hs, ho, hu⟩ := h
  exact ⟨og2, hs.below hb, ho, hu.trans (Upd.below hb) (fun _ _ x => x) (fun i hi x => by have := hu.size; omega)⟩
theorem Turned.ofBelow {w w1 : World} {b : Nat} {most : Int} {og : Option Nat} {ys : List Rg} (h : SetAt w b most og ys) (hb : Below w.heap.size w w1) : Turned w b most og ys w1 :=
  ⟨og, h.below hb, .inl rfl, (Upd.below hb).mono (fun i hi x => by omega)⟩

theorem minI (a b : Nat) : (if b < a then (b : Int) else (a : Int)) = ((min a b : Nat) : Int) := by split <;> omega
theorem maxI (a b : Nat) : (if a < b then (b : Int) else (a : Int)) = ((max a b : Nat) : Int) := by split <;> omega

set_option maxRecDepth 100000 in
set_option maxHeartbeats 2000000 in
theorem add_yes (b : Nat) (most : Int) (og : Option Nat) (xs : List Rg) (lo hi : Nat) (w : World) (h : SetAt w b most og xs) (hm : 1 ≤ most) (hm2 : most ≤ 9223372036854775807) (hlen : (xs.length + 1) * 16 ≤ 140737488355328) (h1 : lo < hi) (h2 : hi ≤ 4611686018427387904) :
    Calls Try.prog 44 #[.pointer (some ⟨b, 0, none⟩), .int .u64 lo, .int .u64 hi] w fun e w' => e = .returned (.bool ((addL most xs lo hi).any (meetP lo hi))) ∧ Turned w b most og (addL most xs lo hi) w' := by
  obtain ⟨v, hset⟩ := h
  obtain ⟨oa, cap, rfl, hcap, hcap2⟩ := hset.2.1.shape
  have hbl := heap_lt hset.1
  obtain ⟨W, hW⟩ : ∃ W, W = (w.alloc (.cells #[.int .u64 lo] 24)).alloc (.cells #[.int .u64 hi] 24) := ⟨_, rfl⟩
  have hB : Below w.heap.size w W := by rw [hW]; exact ((Below.refl _ _).alloc (Nat.le_refl _) _).alloc (by simp) _
  have hsz : W.heap.size = w.heap.size + 2 := by rw [hW]; simp
  have hset2 : SetIs W b most (.slice oa xs.length cap) og xs := hset.below hB
  have c1 : W.cell? ⟨b, 1, none⟩ = some (.slice oa xs.length cap) := by
    have := cell_at hset2.1 1
    simpa using this
  have cl : W.cell? ⟨w.heap.size, 0, none⟩ = some (.int .u64 lo) := by rw [hW]; simp
  have ch : W.cell? ⟨w.heap.size + 1, 0, none⟩ = some (.int .u64 hi) := by rw [hW]; simp
  have HG0 := Lib.hid (show ∀ g, og = some g → g < w.heap.size from hset.2.1.lt)
  have HSET := Lib.hid hset2
  have HB := Lib.hid hB
  have HSZ := Lib.hid hsz
  clear hset hset2 hB hsz
  generalize hn : xs.length = n at *
  have HN := Lib.hid hn
  clear hn
  have hil := iOf_le xs lo
  go_enter Try.func44, Try.ntmps44
  have HW := Lib.hid hW
  clear hW
  go_upto_block 0 with fail
  rw [← HW.out]
  go_cut [7] (fun i wx => i = .int .i64 (iOf xs lo) ∧ ∃ q, wx = W.drewN q)
  case first =>
    go_wp2_with fail
    go_loopw [7] (fun i wr => ∃ j q : Nat, i = .int .i64 j ∧ j ≤ iOf xs lo ∧ wr = W.drewN q) (fun i _ => n - (intOf i).toNat)
    case atStart => exact ⟨0, 0, rfl, by omega, rfl⟩
    case round =>
      obtain ⟨j, q, rfl, hj, rfl⟩ := hrel
      rw [HN.out] at hil
      by_cases hlt : j < iOf xs lo
      · obtain ⟨r, hr, hr2⟩ := iOf_lt hlt
        obtain ⟨g, hog, rfl, hgl, c2, c3⟩ := HSET.out.2.1.atS hr
        have hjn : (j : Int) < (n : Int) := by omega
        clear hr hog c2
        go_wp2_with fail
        go_quiet (fail)
        go_wp2
        go_roundw
        case rel => exact ⟨j + 1, _, by go_num, by omega, rfl⟩
        case measure => simp [intOf]; omega
      · obtain rfl : j = iOf xs lo := by omega
        generalize hj' : iOf xs lo = j at *
        have HJ := Lib.hid hj'
        clear hj'
        by_cases hjn : j < n
        · obtain ⟨r, hr⟩ : ∃ r, xs[j]? = some r := ⟨_, List.getElem?_eq_getElem (by rw [HN.out]; exact hjn)⟩
          obtain ⟨g, hog, rfl, hgl, c2, c3⟩ := HSET.out.2.1.atS hr
          have hr2 : lo ≤ r.2 := iOf_end (xs := xs) (by rw [HJ.out]; exact hr)
          clear hr hog c2
          go_wp2_with fail
          go_quiet (fail)
          go_wp2
          go_meet
          exact ⟨rfl, _, World.drewN_drewN _ _ _⟩
        · go_wp2_with fail
          go_quiet (fail)
          go_wp2
          go_meet
          exact ⟨rfl, _, World.drewN_drewN _ _ _⟩
  case rest =>
    obtain ⟨rfl, q, hwc⟩ := hcut
    have HSET1 := Lib.hid (show SetIs wc b most (.slice oa n cap) og xs by rw [hwc]; exact HSET.out)
    have HB1 := Lib.hid (show Below w.heap.size w wc by rw [hwc]; exact below_drewN HB.out q)
    have HSZ1 := Lib.hid (show wc.heap.size = w.heap.size + 2 by rw [hwc]; exact HSZ.out)
    replace c1 : wc.cell? ⟨b, 1, none⟩ = some (.slice oa n cap) := by rw [hwc]; exact c1
    replace cl : wc.cell? ⟨w.heap.size, 0, none⟩ = some (.int .u64 lo) := by rw [hwc]; exact cl
    replace ch : wc.cell? ⟨w.heap.size + 1, 0, none⟩ = some (.int .u64 hi) := by rw [hwc]; exact ch
    clear hwc HSET HB HSZ HW
    go_upto_block 2 with fail
    have H0 := Lib.hid (show AddSt w (wc.alloc (.cells #[.int .u64 lo, .int .u64 hi] 93)) b most (.slice oa n cap) og xs lo hi wc.heap.size (lo, hi) from
      ⟨HSET1.out.below ((Below.refl _ _).alloc (Nat.le_refl _) _), Lib.cell?_alloc_some _ cl, Lib.cell?_alloc_some _ ch, alloc_at _ _, HB1.out.alloc (by rw [HSZ1.out]; omega) _, by simp, by rw [HSZ1.out]; omega⟩)
    have hgl : ∀ g, og = some g → g < w.heap.size := HG0.out
    have HGL := Lib.hid hgl
    clear hgl HSET1 HB1 HSZ1 c1 cl ch
    generalize wc.alloc (.cells #[.int .u64 lo, .int .u64 hi] 93) = wd at *
    generalize wc.heap.size = c at *
    have hkl := kOf_le hi (iOf_le xs lo)
    have hkg := kOf_ge xs (iOf xs lo) hi
    rw [HN.out] at hkl hil
    generalize hie : iOf xs lo = i0 at *
    have HIE := Lib.hid hie
    clear hie
    go_cut [9] (fun kv wx => kv = .int .i64 (kOf xs i0 hi) ∧ AddSt w wx b most (.slice oa n cap) og xs lo hi c (fuse (lo, hi) ((xs.take (kOf xs i0 hi)).drop i0)))
    case first =>
      go_wp2_with fail
      go_loopw [9] (fun kv wr => ∃ k : Nat, kv = .int .i64 k ∧ i0 ≤ k ∧ k ≤ kOf xs i0 hi ∧ AddSt w wr b most (.slice oa n cap) og xs lo hi c (fuse (lo, hi) ((xs.take k).drop i0))) (fun kv _ => n - (intOf kv).toNat)
      case atStart => exact ⟨i0, rfl, by omega, hkg, by rw [show (xs.take i0).drop i0 = [] by simp]; exact H0.out⟩
      case round =>
        obtain ⟨k, rfl, hk1, hk2, hst⟩ := hrel
        have HST := Lib.hid hst
        have cb := cell_at hst.set.1 1
        have cl := hst.lo
        have ch := hst.hi
        have cr0 := cell_at hst.cur 0
        have cr1 := cell_at hst.cur 1
        have fr0 := free_at hst.cur 0
        have fr1 := free_at hst.cur 1
        simp at cb cr0 cr1
        clear hst H0
        by_cases hlt : k < kOf xs i0 hi
        · obtain ⟨r, hr, hr2⟩ := kOf_lt hk1 hlt
          obtain ⟨g, hog, rfl, _, c2, c3⟩ := HST.out.set.2.1.atS hr
          have hkn : (k : Int) < (n : Int) := by omega
          have HF := Lib.hid (fuse_step (r := (lo, hi)) hk1 hr)
          have hgc : g ≠ c := fun e => by have h1 := HGL.out g hog; have h2 := HST.out.far; omega
          clear hr hog
          generalize fuse (lo, hi) ((xs.take k).drop i0) = f at *
          go_wp2_with fail
          go_quiet (fail)
          go_wp2_with fail
          go_region
          go_wp2
          go_roundw
          case rel =>
            refine ⟨k + 1, by go_num, by omega, by omega, ?_⟩
            rw [HF.out]
            have hp := (HST.out.drewN (nq + 1)).put hbl HGL.out (min f.1 r.1, max f.2 r.2)
            rw [minI, maxI]
            exact hp
          case measure => simp [intOf]; omega
        · obtain rfl : k = kOf xs i0 hi := by omega
          generalize hke : kOf xs i0 hi = k at *
          have HKE := Lib.hid hke
          clear hke
          by_cases hkn : k < n
          · obtain ⟨r, hr⟩ : ∃ r, xs[k]? = some r := ⟨_, List.getElem?_eq_getElem (by rw [HN.out]; exact hkn)⟩
            obtain ⟨g, hog, rfl, _, c2, c3⟩ := HST.out.set.2.1.atS hr
            have hr2 : hi < r.1 := kOf_end (xs := xs) (by rw [HKE.out]; exact hr)
            clear hr hog c3
            go_wp2_with fail
            go_quiet (fail)
            go_wp2
            go_meet
            exact ⟨rfl, HST.out.drewN _⟩
          · go_wp2_with fail
            go_quiet (fail)
            go_wp2
            go_meet
            exact ⟨rfl, HST.out.drewN _⟩
    case rest =>
      obtain ⟨rfl, hst⟩ := hcut
      generalize hke : kOf xs i0 hi = k at *
      have HKE := Lib.hid hke
      have HST := Lib.hid hst
      have cb := cell_at hst.set.1 1
      have cr0 := cell_at hst.cur 0
      have cr1 := cell_at hst.cur 1
      simp at cb cr0 cr1
      clear hst H0 hke
      generalize hfe : fuse (lo, hi) ((xs.take k).drop i0) = f at *
      have HFE := Lib.hid hfe
      clear hfe
      have hrep := replace_any (.slice oa n cap) og xs i0 k wc.heap.size f (wc.alloc (.cells #[.int .u64 f.1, .int .u64 f.2] 93)).drew
        (by exact HST.out.set.2.1.below ((Below.refl wc.heap.size wc).alloc (Nat.le_refl _) (.cells #[.int .u64 f.1, .int .u64 f.2] 93)).drew) hkg (by rw [HN.out]; exact hkl) (by exact alloc_at _ _)
        (fun e => by have h1 := HGL.out _ e; have h2 := HST.out.size; have h3 := HST.out.far; omega) (by rw [HN.out]; exact hlen)
      have hbw : (wc.alloc (.cells #[.int .u64 f.1, .int .u64 f.2] 93)).drew.heap[b]? = some (.cells #[.int .i64 most, .slice oa n cap] 98 (0, 0)) := alloc_old HST.out.set.1
      have hne := HST.out.set.2.2
      have HREP := Lib.hid (hrep.mono (R' := fun e w5 => ∃ oa5 n5 cap5 og5, e = .returned (.slice oa5 n5 cap5) ∧ Sl w5 (.slice oa5 n5 cap5) og5 (xs.take i0 ++ f :: xs.drop k) ∧
          (og5 = og ∨ ∃ g, og5 = some g ∧ wc.heap.size + 1 ≤ g) ∧ Upd (fun j => og = some j) (wc.alloc (.cells #[.int .u64 f.1, .int .u64 f.2] 93)).drew w5 ∧ w5.cell? ⟨b, 1, none⟩ = some (.slice oa n cap) ∧ w5.frozen? ⟨b, 1, none⟩ = false ∧
          w5.heap[b]? = some (.cells #[.int .i64 most, .slice oa n cap] 98 (0, 0)))
        (by
          rintro e w5 ⟨v5, og5, rfl, hsl, ho, hup⟩
          obtain ⟨oa5, cap5, rfl, _, _⟩ := hsl.shape
          have hb5 := hup.keeps hbw hne
          have cb5 := cell_at hb5 1
          exact ⟨_, _, _, og5, rfl, hsl, by simpa using ho, hup, by simpa using cb5, free_at hb5 1, hb5⟩))
      clear hrep hbw
      have cba := fun o => Lib.cell?_alloc_some o cb
      go_wp2_with fail
      go_region_with (go_at_call 59; refine HREP.out.mono ?_; rintro e w5 ⟨oa5, n5, cap5, og5, rfl, hsl, hog5, hup, cb5, fb5, hb5⟩)
      all_goals (have HF := Lib.hid (add_fin HST.out hbl HGL.out hsl hog5 hup hb5))
      all_goals (have fb6 := cell_at (set_store hb5 (.slice oa5 n5 cap5)) 1)
      all_goals clear hsl hog5 hup cb5 fb5 hb5 cba cb cr0 cr1 HREP HST
      all_goals go_wp2_with fail
      all_goals (refine (trim_any _ _ _ _ _ HF.out.1 hm hm2).mono ?_; rintro e w7 ⟨rfl, ht⟩)
      all_goals (have HT := Lib.hid ht)
      all_goals (have cl7 := Lib.hid (ht.cell HF.out.2.2.1 (by omega) (by rintro rfl; rcases HF.out.2.2.2.2 with hx | ⟨g, hx, hg⟩; (have := HGL.out _ hx.symm; omega); (cases hx; omega))))
      all_goals (have ch7 := Lib.hid (ht.cell HF.out.2.2.2.1 (by omega) (by rintro rfl; rcases HF.out.2.2.2.2 with hx | ⟨g, hx, hg⟩; (have := HGL.out _ hx.symm; omega); (cases hx; omega))))
      all_goals obtain ⟨og7, ⟨v7, hs7⟩, _, _⟩ := ht
      all_goals (have cb7 := cell_at hs7.1 1)
      all_goals simp at cb7
      all_goals (have HS7 := Lib.hid hs7.2.1)
      all_goals clear hs7 fb6
      all_goals go_wp2_with fail
      all_goals (refine (contains_meet lo hi w.heap.size (w.heap.size + 1) v7 og7 _ w7 HS7.out cl7.out ch7.out).mono ?_; rintro e w8 ⟨rfl, hb8⟩)
      all_goals (have HB8 := Lib.hid hb8)
      all_goals (have hadd : addL most xs lo hi = trimL most (xs.take i0 ++ f :: xs.drop k) := by unfold addL addRaw; rw [HIE.out, HKE.out, HFE.out])
      all_goals (have HADD := Lib.hid hadd)
      all_goals clear hadd hb8 cb7
      all_goals go_wp2
      all_goals go_ret
      all_goals rw [HADD.out]
      all_goals exact ⟨rfl, (HT.out.next HF.out.2.1 (HF.out.2.2.2.2.imp id (fun ⟨g, h1, h2⟩ => ⟨g, h1, by omega⟩))).later HB8.out⟩

theorem add_any (b : Nat) (most : Int) (og : Option Nat) (xs : List Rg) (lo hi : Nat) (w : World) (h : SetAt w b most og xs) (hm : 1 ≤ most) (hm2 : most ≤ 9223372036854775807) (hlen : (xs.length + 1) * 16 ≤ 140737488355328) :
    Calls Try.prog 44 #[.pointer (some ⟨b, 0, none⟩), .int .u64 lo, .int .u64 hi] w fun e w' =>
      e = .returned (.bool (if lo < hi ∧ hi ≤ 4611686018427387904 then (addL most xs lo hi).any (meetP lo hi) else false)) ∧ Turned w b most og (if lo < hi ∧ hi ≤ 4611686018427387904 then addL most xs lo hi else xs) w' := by
  by_cases hc : lo < hi ∧ hi ≤ 4611686018427387904
  · simp only [hc, and_self, if_true]
    exact add_yes b most og xs lo hi w h hm hm2 hlen hc.1 hc.2
  · simp only [hc, if_false]
    exact (add_no b lo hi w hc).mono fun e w' ⟨he, hb⟩ => ⟨he, Turned.ofBelow h hb⟩
end Go.Proofs.Ytebiebcpdjipjaa

/- DERIVED. Walk of inbuf's Add. -/
namespace Go.Proofs.Ytebiebcpdjipjaa
open Go.RowKit

/-- In the middle of Add: the first i bytes are laid. -/
structure AddMid (fp : Nat → Prop) (w wr : World) (b : Nat) (s : IB) (c : Nat) (og : Option Nat) (xs : List Rg) (off : Nat) (d : List Nat) (i : Nat) (cs : Array Value) : Prop where
  blk : wr.heap[b]? = some (.cells cs 84 (0, 0))
  size : cs.size = 2053
  c0 : cs[0]? = some (.int .u64 s.rd)
  c1 : cs[1]? = some (.int .u64 s.hi)
  c2 : cs[2]? = some (.int .u64 s.fin)
  c3 : cs[3]? = some (.bool s.kn)
  ring : ∀ j v, gt (putN s.rd off s.L (d.take i)) j = some v → cs[4 + (s.rd + j) % 2048]? = some (.int .u8 v)
  c5 : cs[2052]? = some (.pointer (some ⟨c, 0, none⟩))
  came : SetAt wr c 2048 og xs
  upd : Upd fp w wr
  sub : ∀ k, (k = b ∨ k = c ∨ og = some k) → fp k ∨ w.heap.size ≤ k
theorem BufAt.mid {w : World} {b : Nat} {s : IB} {c : Nat} {og : Option Nat} {xs : List Rg} {cs : Array Value} (h : BufAt w b s c og xs cs) (off : Nat) (d : List Nat) {fp : Nat → Prop} (hfp : fp = fun j => j = b ∨ j = c ∨ og = some j) : AddMid fp w w b s c og xs off d 0 cs :=
  ⟨h.blk, h.size, h.c0, h.c1, h.c2, h.c3, by simpa [putN_nil] using h.ring, h.c5, h.came, Upd.refl _ _, fun k hk => .inl (by rw [hfp]; exact hk)⟩
theorem AddMid.later {fp : Nat → Prop} {w wr w2 : World} {b : Nat} {s : IB} {c : Nat} {og : Option Nat} {xs : List Rg} {off : Nat} {d : List Nat} {i : Nat} {cs : Array Value} (h : AddMid fp w wr b s c og xs off d i cs) (hb : Below wr.heap.size wr w2) : AddMid fp w w2 b s c og xs off d i cs :=
  ⟨below_keeps hb h.blk (heap_lt h.blk), h.size, h.c0, h.c1, h.c2, h.c3, h.ring, h.c5, h.came.below hb, h.upd.trans (Upd.below hb) (fun _ _ x => x) (fun j hj x => by have := h.upd.size; omega), h.sub⟩
theorem take_snoc {d : List Nat} {k x : Nat} (h : d[k]? = some x) : d.take (k + 1) = d.take k ++ [x] ∧ (d.take k).length = k := by
  rw [List.getElem?_eq_some_iff] at h
  obtain ⟨h1, h2⟩ := h
  refine ⟨by rw [List.take_add_one, List.getElem?_eq_getElem h1, h2]; rfl, by rw [List.length_take]; omega⟩
theorem AddMid.keep_read {fp : Nat → Prop} {w wr : World} {b : Nat} {s : IB} {c : Nat} {og : Option Nat} {xs : List Rg} {off : Nat} {d : List Nat} {i x z : Nat} {cs : Array Value} (h : AddMid fp w wr b s c og xs off d i cs) (hx : d[i]? = some x) (hz : off + i = z) (h1 : z < s.rd) :
    AddMid fp w wr b s c og xs off d (i + 1) cs := by
  obtain ⟨e1, e2⟩ := take_snoc hx
  refine ⟨h.blk, h.size, h.c0, h.c1, h.c2, h.c3, ?_, h.c5, h.came, h.upd, h.sub⟩
  intro j v hv
  rw [e1, putN_snoc, e2, if_pos (by omega)] at hv
  exact h.ring j v hv
theorem CameIs.at {s : IB} {xs : List Rg} (h : CameIs s xs) {z : Nat} (h1 : s.rd ≤ z) : (gt s.L (z - s.rd)).isSome = mem xs z := by
  rw [h.2 z]
  have : ¬ z < s.rd := by omega
  simp [IB.came, this]
theorem AddMid.keep_came {fp : Nat → Prop} {w wr : World} {b : Nat} {s : IB} {c : Nat} {og : Option Nat} {xs : List Rg} {off : Nat} {d : List Nat} {i x z : Nat} {cs : Array Value} (h : AddMid fp w wr b s c og xs off d i cs) (hi : CameIs s xs) (hx : d[i]? = some x) (hz : off + i = z) (h1 : s.rd ≤ z)
    (hm : mem xs z = true) : AddMid fp w wr b s c og xs off d (i + 1) cs := by
  obtain ⟨e1, e2⟩ := take_snoc hx
  have hg := hi.at h1
  rw [hm] at hg
  refine ⟨h.blk, h.size, h.c0, h.c1, h.c2, h.c3, ?_, h.c5, h.came, h.upd, h.sub⟩
  intro j v hv
  rw [e1, putN_snoc, e2, if_neg (by omega), gt_put1, hz] at hv
  have hp : gt (putN s.rd off s.L (d.take i)) (z - s.rd) = gt s.L (z - s.rd) := by rw [gt_putN, if_pos hg]
  by_cases e : j = z - s.rd
  · subst e
    rw [if_pos rfl, hp, if_pos hg] at hv
    exact h.ring _ v (by rw [hp]; exact hv)
  · rw [if_neg e] at hv
    exact h.ring j v hv
theorem AddMid.store {fp : Nat → Prop} {w wr : World} {b : Nat} {s : IB} {c : Nat} {og : Option Nat} {xs : List Rg} {off : Nat} {d : List Nat} {i x z : Nat} {cs : Array Value} (h : AddMid fp w wr b s c og xs off d i cs) (hi : CameIs s xs) (hL : s.L.length ≤ 2048) (hne : c ≠ b ∧ og ≠ some b) (hx : d[i]? = some x) (hz : off + i = z) (h1 : s.rd ≤ z) (h2 : z < s.rd + 2048)
    (hm : mem xs z = false) : ∃ cs', AddMid fp w (wr.setCell ⟨b, 4 + z % 2048, none⟩ (.int .u8 x)) b s c og xs off d (i + 1) cs' := by
  obtain ⟨e1, e2⟩ := take_snoc hx
  have hg := hi.at h1
  rw [hm] at hg
  have hu : Upd (fun j => j = b) wr (wr.setCell ⟨b, 4 + z % 2048, none⟩ (.int .u8 x)) := Upd.setCell (Upd.refl (fun j => j = b) wr) ⟨b, 4 + z % 2048, none⟩ (.inl rfl) _
  have far : ∀ q, (q < 4 ∨ q = 2052) → (cs.setIfInBounds (4 + z % 2048) (.int .u8 x))[q]? = cs[q]? := by
    intro q hq
    rw [Array.getElem?_setIfInBounds, if_neg (by omega)]
  refine ⟨_, set_at h.blk _ _, by simpa using h.size, by rw [far 0 (by omega)]; exact h.c0, by rw [far 1 (by omega)]; exact h.c1, by rw [far 2 (by omega)]; exact h.c2, by rw [far 3 (by omega)]; exact h.c3, ?_, by rw [far 2052 (by omega)]; exact h.c5, ?_, ?_, h.sub⟩
  · intro j v hv
    have hjl : j < 2048 := by
      rcases Nat.lt_or_ge j (putN s.rd off s.L (d.take (i + 1))).length with hj | hj
      · rw [putN_len] at hj
        split at hj
        · omega
        · rw [e1, List.length_append, e2] at hj
          simp at hj
          omega
      · rw [gt_ge hj] at hv
        cases hv
    rw [e1, putN_snoc, e2, if_neg (by omega), gt_put1, hz] at hv
    have hp : gt (putN s.rd off s.L (d.take i)) (z - s.rd) = none := by
      rw [gt_putN, if_neg (by rw [hg]; simp)]
      split
      · rw [List.getElem?_eq_none (by rw [e2]; omega)]
      · rfl
    rw [Array.getElem?_setIfInBounds]
    by_cases e : j = z - s.rd
    · subst e
      rw [if_pos rfl, hp] at hv
      simp at hv
      subst hv
      rw [if_pos (by rw [show s.rd + (z - s.rd) = z by omega]), if_pos (by rw [h.size]; omega)]
    · rw [if_neg e] at hv
      rw [if_neg (by omega)]
      exact h.ring j v hv
  · exact h.came.keeps hu (by rintro rfl; exact hne.1 rfl) (by rintro g hg' rfl; exact hne.2 hg')
  · exact h.upd.trans hu (fun _ _ x => x) (fun j hj x => by
      subst x
      rcases h.sub _ (.inl rfl) with q | q
      · exact q
      · omega)
theorem AddMid.turned {fp : Nat → Prop} {w wr w' : World} {b : Nat} {s : IB} {c : Nat} {og : Option Nat} {xs ys : List Rg} {off : Nat} {d : List Nat} {i : Nat} {cs : Array Value} (h : AddMid fp w wr b s c og xs off d i cs) (hne : c ≠ b ∧ og ≠ some b) (t : Turned wr c 2048 og ys w') :
    ∃ og', AddMid fp w w' b s c og' ys off d i cs ∧ og' ≠ some b := by
  obtain ⟨og', h1, h2, h3⟩ := t
  have hb := heap_lt h.blk
  refine ⟨og', ⟨h3.keeps h.blk ?_, h.size, h.c0, h.c1, h.c2, h.c3, h.ring, h.c5, h1, h.upd.trans h3 (fun _ _ x => x) ?_, ?_⟩, ?_⟩
  · rintro (x | x)
    · exact hne.1 x.symm
    · exact hne.2 x
  · intro j hj x
    rcases h.sub j (.inr x) with q | q
    · exact q
    · omega
  · intro k hk
    rcases hk with hk | hk | hk
    · exact h.sub k (.inl hk)
    · exact h.sub k (.inr (.inl hk))
    · rcases h2 with rfl | rfl | ⟨g, rfl, h4⟩
      · exact h.sub k (.inr (.inr hk))
      · cases hk
      · cases hk
        right
        have := h.upd.size
        omega
  · rcases h2 with rfl | rfl | ⟨g, rfl, h4⟩
    · exact hne.2
    · simp
    · intro e
      cases e
      omega
theorem came_put {s : IB} {xs : List Rg} {off E : Nat} {d : List Nat} {f : Bool} (h : CameIs s xs) (ho : s.Ok) (hE : off + d.length = E) (hb : E ≤ 4611686018427387904) :
    ∃ ys, (if off < E ∧ E ≤ 4611686018427387904 then addL 2048 xs off E else xs) = ys ∧ CameIs (s.put off d f) ys := by
  refine ⟨_, rfl, ?_⟩
  by_cases hl : off < E
  · rw [if_pos ⟨hl, hb⟩]
    have h1 := h.few ho
    have h2 := addN_len xs (off, E)
    have e : addL 2048 xs off E = addN xs (off, E) := by
      unfold addL
      rw [addRaw_is hl xs h.1, trim_all (by omega)]
    rw [e, ← hE]
    exact h.put (by omega) (by omega)
  · rw [if_neg (by omega)]
    have : d = [] := List.eq_nil_of_length_eq_zero (by omega)
    subst this
    exact h.put_nil
/-- The numbers behind the bytes. -/
def stored (f : Bool) (b m E : Nat) (w : World) : World := if f then ((w.setCell ⟨b, 1, none⟩ (.int .u64 m)).setCell ⟨b, 2, none⟩ (.int .u64 E)).setCell ⟨b, 3, none⟩ (.bool true) else w.setCell ⟨b, 1, none⟩ (.int .u64 m)
theorem AddMid.fin {fp : Nat → Prop} {w wr : World} {b : Nat} {s : IB} {c : Nat} {og : Option Nat} {ys : List Rg} {off E m : Nat} {d : List Nat} {f : Bool} {cs : Array Value} (h : AddMid fp w wr b s c og ys off d d.length cs) (hne : c ≠ b ∧ og ≠ some b) (hi : CameIs (s.put off d f) ys)
    (hok : (s.put off d f).Ok) (hE : off + d.length = E) (hm : m = max s.hi E) : ∃ fp', IbAt (stored f b m E wr) b (s.put off d f) fp' ∧ Went fp fp' w (stored f b m E wr) := by
  have hr : ∀ j v, gt (putN s.rd off s.L d) j = some v → cs[4 + (s.rd + j) % 2048]? = some (.int .u8 v) := by
    have := h.ring
    rw [List.take_length] at this
    exact this
  have hu : Upd (fun j => j = b) wr (stored f b m E wr) := by
    unfold stored
    split
    · exact Upd.setCell (Upd.setCell (Upd.setCell (Upd.refl (fun j => j = b) wr) ⟨b, 1, none⟩ (.inl rfl) _) ⟨b, 2, none⟩ (.inl rfl) _) ⟨b, 3, none⟩ (.inl rfl) _
    · exact Upd.setCell (Upd.refl (fun j => j = b) wr) ⟨b, 1, none⟩ (.inl rfl) _
  refine ⟨fun j => j = b ∨ j = c ∨ og = some j, ⟨c, og, ys, if f then ((cs.setIfInBounds 1 (.int .u64 m)).setIfInBounds 2 (.int .u64 E)).setIfInBounds 3 (.bool true) else cs.setIfInBounds 1 (.int .u64 m), ?_, rfl⟩, h.upd.trans hu (fun _ _ x => x) (fun j hj x => by
    subst x
    rcases h.sub _ (.inl rfl) with q | q
    · exact q
    · omega), h.sub⟩
  have hc := h.came.keeps hu (by rintro rfl; exact hne.1 rfl) (by rintro g hg' rfl; exact hne.2 hg')
  have hsz := h.size
  cases f
  · refine ⟨set_at h.blk 1 _, by simpa using h.size, ?_, ?_, ?_, ?_, ?_, ?_, hc, hi, hok, hne.1, hne.2⟩
    · simp [h.c0, IB.put]
    · simp [IB.put, hE, hm, hsz]
    · simp [h.c2, IB.put]
    · simp [h.c3, IB.put]
    · intro j v hv
      simp only [IB.put, Bool.false_eq_true, if_false] at hv ⊢
      rw [Array.getElem?_setIfInBounds, if_neg (by omega)]
      exact hr j v hv
    · simp [h.c5]
  · refine ⟨set_at (set_at (set_at h.blk 1 _) 2 _) 3 _, by simpa using h.size, ?_, ?_, ?_, ?_, ?_, ?_, hc, hi, hok, hne.1, hne.2⟩
    · simp [h.c0, IB.put]
    · simp [IB.put, hE, hm, hsz]
    · simp [IB.put, hE, hsz]
    · simp [IB.put, hsz]
    · intro j v hv
      simp only [IB.put, if_true] at hv ⊢
      rw [Array.getElem?_setIfInBounds, if_neg (by omega), Array.getElem?_setIfInBounds, if_neg (by omega), Array.getElem?_setIfInBounds, if_neg (by omega)]
      exact hr j v hv
    · simp [h.c5]
theorem shas_mem (b : Nat) (most : Int) (og : Option Nat) (xs : List Rg) (n : Nat) (w : World) (h : SetAt w b most og xs) {v : Bool} (hv : mem xs n = v) :
    Calls Try.prog 43 #[.pointer (some ⟨b, 0, none⟩), .int .u64 n] w fun e w' => e = .returned (.bool v) ∧ Below w.heap.size w w' := by
  subst hv
  exact shas_any b most og xs n w h

set_option maxRecDepth 100000 in
set_option maxHeartbeats 1000000 in
theorem badd_ok (b : Nat) (s : IB) (fp : Nat → Prop) (off : Nat) (vd : Value) (d : List Nat) (f : Bool) (w : World) (h : IbAt w b s fp) (hd : VwA encB fp w vd d) (hb : Bys d) (hoff : off < 18446744073709551616) (he : s.err off d.length f = 0) :
    Calls Try.prog 23 #[.pointer (some ⟨b, 0, none⟩), .int .u64 off, vd, .bool f] w fun e w' => e = .returned (.int .i64 0) ∧ ∃ fp', IbAt w' b (s.put off d f) fp' ∧ Went fp fp' w w' := by
  obtain ⟨⟨he1, he2⟩, he3, he4⟩ := IB.err_zero he
  obtain ⟨c0, c1, c2, c3⟩ := h.cells
  obtain ⟨hb1, hb3, hb4, hb2⟩ := h.bd
  obtain ⟨oa, cap, rfl, hcap1, hcap2⟩ := hd.shape
  have H := Lib.hid h
  have HD := Lib.hid hd
  have HB := Lib.hid hb
  have HE3 := Lib.hid he
  clear h hd hb he
  generalize hn : d.length = len at *
  have HN := Lib.hid hn
  clear hn
  obtain ⟨E, hE, hE2⟩ : ∃ E : Nat, (off : Int) + (len : Int) = (E : Int) ∧ off + len = E := ⟨off + len, by omega, rfl⟩
  have HE := Lib.hid hE2
  have hE3 : E ≤ s.rd + 2048 := by omega
  rw [hE2] at he3 he4
  clear hE2
  go_enter Try.func23, Try.ntmps23
  go_upto_block 0 with fail
  go_cut [] (fun wx => wx = w)
  case first =>
    unfold IB.finErr at he3
    generalize s.kn = kn at *
    cases kn
    · cases f
      · go_wp2_with fail
        go_meet
        case rel => rfl
      · have q1 : ¬ E < s.hi := by simpa using he3
        go_wp2_with fail
        go_meet
        case rel => rfl
    · cases f
      · have q1 : ¬ s.fin < E := by simpa using he3
        go_wp2_with fail
        go_meet
        case rel => rfl
      · have q1 : E = s.fin ∧ ¬ E < s.hi := by
          simp at he3
          omega
        obtain ⟨q1, q2⟩ := q1
        have q3 : ¬ s.fin < E := by omega
        have q4 : ((E : Int) == (s.fin : Int)) = true := by rw [q1]; simp
        have q5 : ((E : Int) != (s.fin : Int)) = false := by rw [q1]; simp
        clear q1
        go_wp2_with fail
        go_meet
        case rel => rfl
  case rest =>
    subst hcut
    obtain ⟨c, og, xs, cs0, hbuf, hfp⟩ := H.out
    have HM0 := Lib.hid (show ∃ cs, AddMid fp wc wc b s c og xs off d 0 cs from ⟨cs0, hbuf.mid off d hfp⟩)
    have HI := Lib.hid hbuf.is
    have HO := Lib.hid hbuf.ok
    have HNE := Lib.hid (show c ≠ b ∧ og ≠ some b from ⟨hbuf.ne, hbuf.apart⟩)
    have HFP := Lib.hid hfp
    clear hbuf hfp c0 c1 c2 c3
    go_upto_block 1 with fail
    go_wp2_with fail
    go_loopw [68] (fun i wr => ∃ k : Nat, i = .int .i64 k ∧ k ≤ len ∧ ∃ cs, AddMid fp wc wr b s c og xs off d k cs) (fun i _ => len - (intOf i).toNat)
    case atStart => exact ⟨0, rfl, by omega, HM0.out⟩
    case round =>
      obtain ⟨k, rfl, hk, cs, hm⟩ := hrel
      have HM := Lib.hid hm
      clear hm HM0
      by_cases hlt : k < len
      · obtain ⟨x, hx⟩ : ∃ x, d[k]? = some x := ⟨_, List.getElem?_eq_getElem (by rw [HN.out]; exact hlt)⟩
        have hdw := HD.out.upd HM.out.upd (fun j hj => hj)
        obtain ⟨bd, od, rfl, hcell⟩ := hdw.byte hx
        have HX := Lib.hid hx
        have hx256 : x < 256 := HB.out x (List.mem_of_getElem? hx)
        clear hdw hx
        obtain ⟨at_, hat, hat2⟩ : ∃ z : Nat, (off : Int) + (k : Int) = (z : Int) ∧ off + k = z := ⟨off + k, by omega, rfl⟩
        have HAT := Lib.hid hat2
        have hat3 : at_ < s.rd + 2048 := by omega
        have hat4 : at_ ≤ 1099511628288 := by omega
        clear hat2
        have c0 : wr.cell? ⟨b, 0, none⟩ = some (.int .u64 s.rd) := by rw [cell_at HM.out.blk, HM.out.c0]
        have c5 : wr.cell? ⟨b, 2052, none⟩ = some (.pointer (some ⟨c, 0, none⟩)) := by rw [cell_at HM.out.blk, HM.out.c5]
        by_cases h1 : s.rd ≤ at_
        · cases hmm : mem xs at_
          · obtain ⟨m, hm, hm2, hm3⟩ : ∃ m : Nat, (at_ : Int).tmod 2048 = (m : Int) ∧ at_ % 2048 = m ∧ m < 2048 := ⟨at_ % 2048, by rw [Int.tmod_eq_emod_of_nonneg (by omega)]; omega, rfl, by omega⟩
            have HMM := Lib.hid hm2
            clear hm2
            go_wp2_with fail
            refine (shas_mem c 2048 og xs at_ _ (by exact HM.out.came) hmm).mono ?_
            rintro e w2 ⟨rfl, hb⟩
            have HM2 := Lib.hid (HM.out.later hb)
            clear hb HM c0 c5
            obtain ⟨u, hu⟩ : ∃ u, cs[4 + m]? = some u := ⟨_, Array.getElem?_eq_getElem (by rw [HM2.out.size]; omega)⟩
            have e0 : w2.cell? ⟨b, 4 + m, none⟩ = some u := by rw [cell_at HM2.out.blk, hu]
            have e1 := free_at HM2.out.blk (4 + m)
            clear hu
            go_wp2_with fail
            go_roundw
            case rel =>
              obtain ⟨cs2, h2⟩ := HM2.out.store HI.out HO.out.len HNE.out HX.out HAT.out h1 hat3 hmm
              rw [HMM.out] at h2
              exact ⟨k + 1, by go_num, by omega, cs2, h2⟩
            case measure => simp [intOf]; omega
          · go_wp2_with fail
            refine (shas_mem c 2048 og xs at_ _ (by exact HM.out.came) hmm).mono ?_
            rintro e w2 ⟨rfl, hb⟩
            have HM2 := Lib.hid ((HM.out.keep_came HI.out HX.out HAT.out h1 hmm).later hb)
            clear hb HM c0 c5
            go_wp2_with fail
            go_roundw
            case rel => exact ⟨k + 1, by go_num, by omega, cs, HM2.out⟩
            case measure => simp [intOf]; omega
        · go_wp2_with fail
          go_roundw
          case rel => exact ⟨k + 1, by go_num, by omega, cs, HM.out.keep_read HX.out HAT.out (by omega)⟩
          case measure => simp [intOf]; omega
      · obtain rfl : k = len := by omega
        have c5 : wr.cell? ⟨b, 2052, none⟩ = some (.pointer (some ⟨c, 0, none⟩)) := by rw [cell_at HM.out.blk, HM.out.c5]
        have hfew := HI.out.few HO.out
        go_wp2_with fail
        refine (add_any c 2048 og xs off E _ (by exact HM.out.came) (by omega) (by omega) (by omega)).mono ?_
        rintro e w2 ⟨rfl, ht⟩
        have HPO := Lib.hid (IB.put_ok HO.out (f := f) (by rw [HN.out]; exact HE3.out) HB.out)
        have hres : ∃ ys, (if off < E ∧ E ≤ 4611686018427387904 then addL 2048 xs off E else xs) = ys ∧ CameIs (s.put off d f) ys := came_put HI.out HO.out (by rw [HN.out]; exact HE.out) (by omega)
        obtain ⟨ys, hys, hcy⟩ := hres
        rw [hys] at ht
        obtain ⟨og2, hm2, hne2⟩ := HM.out.turned HNE.out ht
        have HM2 := Lib.hid hm2
        have HN2 := Lib.hid (show c ≠ b ∧ og2 ≠ some b from ⟨HNE.out.1, hne2⟩)
        have HCY := Lib.hid hcy
        clear ht hys hcy hm2 hne2 HM c5 hfew
        have e1 : w2.cell? ⟨b, 1, none⟩ = some (.int .u64 s.hi) := by rw [cell_at HM2.out.blk, HM2.out.c1]
        have e2 : w2.cell? ⟨b, 2, none⟩ = some (.int .u64 s.fin) := by rw [cell_at HM2.out.blk, HM2.out.c2]
        have e3 : w2.cell? ⟨b, 3, none⟩ = some (.bool s.kn) := by rw [cell_at HM2.out.blk, HM2.out.c3]
        have f1 := free_at HM2.out.blk 1
        have f2 := free_at HM2.out.blk 2
        have f3 := free_at HM2.out.blk 3
        by_cases hmx : s.hi < E
        all_goals cases f
        all_goals go_wp2_with fail
        all_goals go_ret
        all_goals refine ⟨rfl, ?_⟩
        all_goals exact AddMid.fin (E := E) (by rw [HN.out]; exact HM2.out) HN2.out HCY.out HPO.out (by rw [HN.out]; exact HE.out) (by omega)
end Go.Proofs.Ytebiebcpdjipjaa

/- DERIVED. Walk of inbuf's Add, where it refuses. -/
namespace Go.Proofs.Ytebiebcpdjipjaa
open Go.RowKit

theorem IB.err_one {s : IB} {off n : Nat} {f : Bool} (h : 1099511627776 < off ∨ 512 < n) : s.err off n f = 1 := by unfold IB.err; rw [if_pos h]
theorem IB.err_fin {s : IB} {off n : Nat} {f : Bool} (h : ¬ (1099511627776 < off ∨ 512 < n)) (h2 : s.finErr (off + n) f = true) : s.err off n f = 30 := by unfold IB.err; rw [if_neg h, if_pos h2]
theorem IB.err_over {s : IB} {off n : Nat} {f : Bool} (h : ¬ (1099511627776 < off ∨ 512 < n)) (h2 : s.finErr (off + n) f = false) (h3 : s.rd + 2048 < off + n) : s.err off n f = 23 := by
  unfold IB.err; rw [if_neg h, if_neg (by rw [h2]; simp), if_pos h3]
theorem IB.err_no {s : IB} {off n : Nat} {f : Bool} (h : ¬ (1099511627776 < off ∨ 512 < n)) (h2 : s.finErr (off + n) f = false) (h3 : ¬ s.rd + 2048 < off + n) : s.err off n f = 0 := by
  unfold IB.err; rw [if_neg h, if_neg (by rw [h2]; simp), if_neg h3]

set_option maxRecDepth 100000 in
set_option maxHeartbeats 1000000 in
theorem badd_err (b : Nat) (s : IB) (fp : Nat → Prop) (off : Nat) (vd : Value) (d : List Nat) (f : Bool) (w : World) (h : IbAt w b s fp) (hd : VwA encB fp w vd d) (hoff : off < 18446744073709551616) (he : s.err off d.length f ≠ 0) :
    Calls Try.prog 23 #[.pointer (some ⟨b, 0, none⟩), .int .u64 off, vd, .bool f] w fun e w' => e = .returned (.int .i64 (s.err off d.length f : Nat)) ∧ w' = w := by
  obtain ⟨c0, c1, c2, c3⟩ := h.cells
  obtain ⟨hb1, hb3, hb4, hb2⟩ := h.bd
  obtain ⟨oa, cap, rfl, hcap1, hcap2⟩ := hd.shape
  clear h hd
  generalize d.length = len at *
  by_cases h1 : (1099511627776 : Int) < off
  · have e := IB.err_one (s := s) (f := f) (n := len) (off := off) (.inl (by omega))
    rw [e]
    clear he e
    go_enter Try.func23, Try.ntmps23
    go_wp2_with fail
    go_ret
    exact ⟨rfl, rfl⟩
  by_cases h2 : (512 : Int) < len
  · have e := IB.err_one (s := s) (f := f) (n := len) (off := off) (.inr (by omega))
    rw [e]
    clear he e
    go_enter Try.func23, Try.ntmps23
    go_wp2_with fail
    go_ret
    exact ⟨rfl, rfl⟩
  have h12 : ¬ (1099511627776 < off ∨ 512 < len) := by omega
  obtain ⟨E, hE, hE2⟩ : ∃ E : Nat, (off : Int) + (len : Int) = (E : Int) ∧ off + len = E := ⟨off + len, by omega, rfl⟩
  have HE := Lib.hid hE2
  have hE4 : E ≤ 1099511628288 := by omega
  clear hE2
  cases hfe : s.finErr E f
  · by_cases h3 : s.rd + 2048 < E
    · have e := IB.err_over (s := s) (f := f) h12 (by rw [HE.out]; exact hfe) (by rw [HE.out]; exact h3)
      rw [e]
      clear he e h12
      go_enter Try.func23, Try.ntmps23
      unfold IB.finErr at hfe
      generalize s.kn = kn at *
      have h3' : (s.rd : Int) + 2048 < E := by omega
      cases kn
      · cases f
        · go_wp2_with fail
          go_ret
          exact ⟨rfl, rfl⟩
        · have q1 : ¬ E < s.hi := by simpa using hfe
          go_wp2_with fail
          go_ret
          exact ⟨rfl, rfl⟩
      · cases f
        · have q1 : ¬ s.fin < E := by simpa using hfe
          go_wp2_with fail
          go_ret
          exact ⟨rfl, rfl⟩
        · have q1 : E = s.fin ∧ ¬ E < s.hi := by
            simp at hfe
            omega
          obtain ⟨q1, q2⟩ := q1
          have q3 : ¬ s.fin < E := by omega
          have q5 : ((E : Int) != (s.fin : Int)) = false := by rw [q1]; simp
          clear q1
          go_wp2_with fail
          go_ret
          exact ⟨rfl, rfl⟩
    · exact absurd (IB.err_no h12 (by rw [HE.out]; exact hfe) (by rw [HE.out]; exact h3)) he
  · have e := IB.err_fin (s := s) (f := f) h12 (by rw [HE.out]; exact hfe)
    rw [e]
    clear he e h12
    unfold IB.finErr at hfe
    generalize s.kn = kn at *
    cases kn
    · cases f
      · simp at hfe
      · have q1 : E < s.hi := by simpa using hfe
        go_enter Try.func23, Try.ntmps23
        go_wp2_with fail
        go_ret
        exact ⟨rfl, rfl⟩
    · cases f
      · have q1 : s.fin < E := by simpa using hfe
        go_enter Try.func23, Try.ntmps23
        go_wp2_with fail
        go_ret
        exact ⟨rfl, rfl⟩
      · by_cases q1 : s.fin < E
        · go_enter Try.func23, Try.ntmps23
          go_wp2_with fail
          go_ret
          exact ⟨rfl, rfl⟩
        · by_cases q2 : E = s.fin
          · have q3 : E < s.hi := by
              simp at hfe
              omega
            have q5 : ((E : Int) != (s.fin : Int)) = false := by rw [q2]; simp
            clear q2
            go_enter Try.func23, Try.ntmps23
            go_wp2_with fail
            go_ret
            exact ⟨rfl, rfl⟩
          · have q5 : ((E : Int) != (s.fin : Int)) = true := by simp; omega
            go_enter Try.func23, Try.ntmps23
            go_wp2_with fail
            go_ret
            exact ⟨rfl, rfl⟩
end Go.Proofs.Ytebiebcpdjipjaa

/- DERIVED. Plain: pieces of one row of bytes; two rows of which the first one stands. -/
namespace Go.Proofs.Ytebiebcpdjipjaa

theorem out_eq {s : IB} {n : Nat} {l : List Nat} (hn : n ≤ rdy s.L) (hl : l.length = n) (h : ∀ j v, j < n → gt s.L j = some v → l[j]? = some v) : s.out n = l := by
  unfold IB.out
  apply List.ext_getElem?
  intro j
  have hle := rdy_le s.L
  by_cases hj : j < n
  · rw [List.getElem?_take_of_lt hj]
    obtain ⟨v, hv⟩ := rdy_lt (Nat.lt_of_lt_of_le hj hn)
    rw [bytesOf_get hv, h j v hj hv]
  · rw [List.getElem?_eq_none (by simp [bytesOf]; omega), List.getElem?_eq_none (by omega)]
theorem out_len {s : IB} {n : Nat} (hn : n ≤ rdy s.L) : (s.out n).length = n := by
  have := rdy_le s.L
  simp [IB.out, bytesOf]
  omega

/-- All that came are pieces of one row. -/
structure Piece (W : List Nat) (s : IB) : Prop where
  rd : s.rd ≤ W.length
  hi : s.hi ≤ W.length
  fin : s.kn = true → s.fin = W.length
  get : ∀ j v, gt s.L j = some v → W[s.rd + j]? = some v
theorem Piece.zero (W : List Nat) : Piece W IB.zero := ⟨Nat.zero_le _, Nat.zero_le _, by simp [IB.zero], by intro j v h; simp [IB.zero, gt] at h⟩
theorem Piece.add {W : List Nat} {s : IB} (h : Piece W s) (hW : W.length ≤ 200) {off n : Nat} {f : Bool} (hn : off + n ≤ W.length) (hf : f = true → off + n = W.length) :
    s.err off n f = 0 ∧ Piece W (s.put off ((W.drop off).take n) f) ∧ ((W.drop off).take n).length = n := by
  have hl : ((W.drop off).take n).length = n := by rw [List.length_take, List.length_drop]; omega
  have h1 := h.hi
  refine ⟨?_, ⟨h.rd, ?_, ?_, ?_⟩, hl⟩
  · unfold IB.err
    rw [if_neg (by omega)]
    have : s.finErr (off + n) f = false := by
      unfold IB.finErr
      cases hk : s.kn
      · cases f
        · rfl
        · have := hf rfl
          simp
          omega
      · have h2 := h.fin hk
        cases f
        · simp
          omega
        · have := hf rfl
          simp
          omega
    rw [this]
    simp
    omega
  · simp only [IB.put]
    rw [hl]
    omega
  · intro hk
    simp only [IB.put] at *
    rw [hl] at *
    cases f
    · simp at hk ⊢
      exact h.fin hk
    · simpa using hf rfl
  · intro j v hv
    simp only [IB.put] at hv ⊢
    rw [gt_putN] at hv
    split at hv
    · exact h.get j v hv
    · split at hv
      · rename_i _ ho
        rw [List.getElem?_take] at hv
        split at hv
        · rw [List.getElem?_drop] at hv
          rw [← hv]
          congr 1
          omega
        · cases hv
      · cases hv
theorem Piece.take {W : List Nat} {s : IB} (h : Piece W s) {n : Nat} (hn : n ≤ rdy s.L) : Piece W (s.take n) ∧ s.out n = (W.drop s.rd).take n ∧ s.rd + n ≤ W.length := by
  have hr : s.rd + n ≤ W.length := by
    rcases Nat.eq_zero_or_pos n with h0 | h0
    · have := h.rd
      omega
    · obtain ⟨v, hv⟩ := rdy_lt (L := s.L) (j := n - 1) (by omega)
      have := h.get _ _ hv
      rw [List.getElem?_eq_some_iff] at this
      obtain ⟨h1, _⟩ := this
      omega
  refine ⟨⟨hr, h.hi, h.fin, ?_⟩, ?_, hr⟩
  · intro j v hv
    simp only [IB.take] at hv ⊢
    rw [gt_drop] at hv
    rw [← h.get _ _ hv]
    congr 1
    omega
  · apply out_eq hn
    · rw [List.length_take, List.length_drop]
      omega
    · intro j v hj hv
      rw [List.getElem?_take_of_lt hj, List.getElem?_drop]
      exact h.get j v hv
theorem Piece.all {W : List Nat} {s : IB} (h : Piece W s) (_hok : s.Ok) {f : Bool} : rdy (s.put 0 W f).L = W.length - s.rd := by
  have hr := h.rd
  apply rdy_is
  · intro j hj
    simp only [IB.put]
    rw [gt_putN]
    split
    · assumption
    · rw [if_pos (by omega), List.getElem?_eq_getElem (by omega)]
      rfl
  · simp only [IB.put]
    rw [gt_putN]
    have hn : gt s.L (W.length - s.rd) = none := by
      cases hg : gt s.L (W.length - s.rd) with
      | none => rfl
      | some v =>
        have := h.get _ _ hg
        rw [List.getElem?_eq_none (by omega)] at this
        cases this
    rw [hn]
    simp
    omega

/-- Two rows, the second one from k on. -/
def two (a b : List Nat) (k : Nat) : IB := (IB.zero.put 0 a false).put k b false
theorem two_get (a b : List Nat) {k : Nat} (j : Nat) : gt (two a b k).L j = if j < a.length then a[j]? else if k ≤ j then b[j - k]? else none := by
  simp only [two, IB.put, IB.zero]
  rw [gt_putN, gt_putN]
  simp only [gt_nil, Nat.zero_add, Nat.sub_zero, Nat.zero_le, if_true, Option.isSome_none, Bool.false_eq_true, if_false]
  by_cases h : j < a.length
  · rw [if_pos h, List.getElem?_eq_getElem h]
    simp
  · rw [if_neg h, List.getElem?_eq_none (by omega)]
    simp
theorem two_rdy (a b : List Nat) {k : Nat} (hk : k ≤ a.length) : rdy (two a b k).L = max a.length (k + b.length) := by
  apply rdy_is
  · intro j hj
    rw [two_get]
    split
    · rename_i h
      rw [List.getElem?_eq_getElem h]
      rfl
    · rw [if_pos (by omega), List.getElem?_eq_getElem (by omega)]
      rfl
  · rw [two_get, if_neg (by omega)]
    split
    · rw [List.getElem?_eq_none (by omega)]
    · rfl
theorem two_out (a b : List Nat) {k : Nat} (hk : k ≤ a.length) : (two a b k).out (max a.length (k + b.length)) = a ++ b.drop (a.length - k) := by
  apply out_eq (by rw [two_rdy a b hk]; omega)
  · simp
    omega
  · intro j v hj hv
    rw [two_get] at hv
    rw [List.getElem?_append]
    by_cases h : j < a.length
    · rw [if_pos h] at hv ⊢
      exact hv
    · rw [if_neg h] at hv ⊢
      rw [if_pos (by omega)] at hv
      rw [List.getElem?_drop, ← hv]
      congr 1
      omega
theorem two_hi (a b : List Nat) (k : Nat) : (two a b k).hi = max a.length (k + b.length) := by simp [two, IB.put, IB.zero]
theorem two_kn (a b : List Nat) (k : Nat) : (two a b k).kn = false := rfl
theorem two_rd (a b : List Nat) (k : Nat) : (two a b k).rd = 0 := rfl
theorem two_ok (a b : List Nat) {k : Nat} (ha : a.length ≤ 60) (hb : b.length ≤ 60) (hk : k ≤ a.length) (Ba : ∀ n ∈ a, n < 256) (Bb : ∀ n ∈ b, n < 256) :
    IB.zero.err 0 a.length false = 0 ∧ (IB.zero.put 0 a false).err k b.length false = 0 ∧ (two a b k).Ok := by
  have h1 : IB.zero.err 0 a.length false = 0 := by
    unfold IB.err
    rw [if_neg (by omega)]
    simp [IB.finErr, IB.zero]
    omega
  have h2 : (IB.zero.put 0 a false).err k b.length false = 0 := by
    unfold IB.err
    rw [if_neg (by omega)]
    simp [IB.finErr, IB.put, IB.zero]
    omega
  exact ⟨h1, h2, IB.put_ok (IB.put_ok IB.zero_ok h1 Ba) h2 Bb⟩
theorem two_over (a b : List Nat) (k : Nat) {off : Nat} (h1 : 2049 ≤ off) (h2 : off ≤ 3048) (h3 : (two a b k).hi ≤ 120) : (two a b k).err off 1 true = 23 := by
  unfold IB.err
  rw [if_neg (by omega)]
  have : (two a b k).finErr (off + 1) true = false := by
    unfold IB.finErr
    rw [two_kn]
    simp
    omega
  rw [this, two_rd]
  simp
  omega
theorem two_final (a b : List Nat) (k : Nat) (h : 0 < (two a b k).hi) : (two a b k).err 0 0 true = 30 := by
  unfold IB.err
  rw [if_neg (by omega)]
  have : (two a b k).finErr (0 + 0) true = true := by
    unfold IB.finErr
    simp
    right
    exact h
  rw [this]
  simp
end Go.Proofs.Ytebiebcpdjipjaa
