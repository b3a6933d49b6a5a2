/- DERIVED. Walks of a set's Has and Add. -/
import Derived.Test.YtebiebcpdjipjaaFind
import Derived.Deep.RegionWith
import Derived.Deep.CutBlock
import Derived.Deep.DeepCutAuto
namespace Go.Proofs.Ytebiebcpdjipjaa
open Go.RowKit
set_option maxRecDepth 100000 in
set_option maxHeartbeats 1000000 in
theorem add_no (b lo hi : Nat) (w : World) (h : ¬ (lo < hi ∧ hi ≤ 4611686018427387904)) :
    Calls Try.prog 44 #[.pointer (some ⟨b, 0, none⟩), .int .u64 lo, .int .u64 hi] w fun e w' => e = .returned (.bool false) ∧ Below w.heap.size w w' := by
  rcases (by omega : hi ≤ lo ∨ (lo < hi ∧ 4611686018427387904 < hi)) with h | ⟨h1, h2⟩
  all_goals
    go_enter Try.func44, Try.ntmps44
    go_wp2
    go_ret
    exact ⟨rfl, ((Below.refl _ _).alloc (Nat.le_refl _) _).alloc (by simp) _⟩


/-- The state behind the first search: the set as it was, the two boxes, the range that grows. -/
structure AddSt (w wx : World) (b : Nat) (most : Int) (v : Value) (og : Option Nat) (xs : List Rg) (lo hi c : Nat) (r : Rg) : Prop where
  set : SetIs wx b most v og xs
  lo : wx.cell? ⟨w.heap.size, 0, none⟩ = some (.int .u64 lo)
  hi : wx.cell? ⟨w.heap.size + 1, 0, none⟩ = some (.int .u64 hi)
  cur : wx.heap[c]? = some (.cells #[.int .u64 r.1, .int .u64 r.2] 93 (0, 0))
  below : Below w.heap.size w wx
  size : wx.heap.size = c + 1
  far : w.heap.size + 1 < c
theorem AddSt.drewN {w wx : World} {b : Nat} {most : Int} {v : Value} {og : Option Nat} {xs : List Rg} {lo hi c : Nat} {r : Rg} (h : AddSt w wx b most v og xs lo hi c r) (n : Nat) : AddSt w (wx.drewN n) b most v og xs lo hi c r :=
  ⟨h.set, h.lo, h.hi, h.cur, below_drewN h.below n, h.size, h.far⟩
theorem AddSt.put {w wx : World} {b : Nat} {most : Int} {v : Value} {og : Option Nat} {xs : List Rg} {lo hi c : Nat} {r : Rg} (h : AddSt w wx b most v og xs lo hi c r) (hb : b < w.heap.size) (hg : ∀ g, og = some g → g < w.heap.size) (r' : Rg) :
    AddSt w ((wx.setCell ⟨c, 0, none⟩ (.int .u64 r'.1)).setCell ⟨c, 1, none⟩ (.int .u64 r'.2)) b most v og xs lo hi c r' := by
  have hu : Upd (fun j => j = c) wx ((wx.setCell ⟨c, 0, none⟩ (.int .u64 r'.1)).setCell ⟨c, 1, none⟩ (.int .u64 r'.2)) :=
    Upd.setCell (Upd.setCell (Upd.refl (fun j => j = c) wx) ⟨c, 0, none⟩ (.inl rfl) _) ⟨c, 1, none⟩ (.inl rfl) _
  have hf := h.far
  have hcell : ∀ j o, j ≠ c → ((wx.setCell ⟨c, 0, none⟩ (.int .u64 r'.1)).setCell ⟨c, 1, none⟩ (.int .u64 r'.2)).cell? ⟨j, o, none⟩ = wx.cell? ⟨j, o, none⟩ := fun j o hj => by
    apply World.cell?_of_block
    rw [Below.heap_setCell _ _ _ _ hj, Below.heap_setCell _ _ _ _ hj]
  refine ⟨h.set.keeps hu (by omega) (fun g hg' => by have := hg g hg'; omega), by rw [hcell _ _ (by omega)]; exact h.lo, by rw [hcell _ _ (by omega)]; exact h.hi, ?_, Upd.onto h.below hu (by rw [h.size]; omega) (by intro j h1 h2; omega), by simp [World.setCell, h.size], h.far⟩
  rw [set_at (set_at h.cur 0 _) 1 _]
  rfl

/-- Behind Replace and the store: what is known, as the trim is called. -/
theorem add_fin {w wc w5 : World} {b : Nat} {most : Int} {v : Value} {og og5 : Option Nat} {xs ys : List Rg} {lo hi c : Nat} {f : Rg} {oa5 : Option Addr} {n5 cap5 : Nat} {o : Obj} (h : AddSt w wc b most v og xs lo hi c f) (hb : b < w.heap.size) (hgl : ∀ g, og = some g → g < w.heap.size)
    (hsl : Sl w5 (.slice oa5 n5 cap5) og5 ys) (hog5 : og5 = og ∨ ∃ g, og5 = some g ∧ wc.heap.size + 1 ≤ g) (hup : Upd (fun j => og = some j) (wc.alloc o).drew w5) (hb5 : w5.heap[b]? = some (.cells #[.int .i64 most, v] 98 (0, 0))) :
    SetAt (w5.setCell ⟨b, 1, none⟩ (.slice oa5 n5 cap5)) b most og5 ys ∧ Upd (fun j => j = b ∨ og = some j) w (w5.setCell ⟨b, 1, none⟩ (.slice oa5 n5 cap5)) ∧
      (w5.setCell ⟨b, 1, none⟩ (.slice oa5 n5 cap5)).cell? ⟨w.heap.size, 0, none⟩ = some (.int .u64 lo) ∧ (w5.setCell ⟨b, 1, none⟩ (.slice oa5 n5 cap5)).cell? ⟨w.heap.size + 1, 0, none⟩ = some (.int .u64 hi) ∧
      (og5 = og ∨ ∃ g, og5 = some g ∧ w.heap.size + 2 ≤ g) := by
  have hsz := h.size
  have hfar := h.far
  have hog : og5 = og ∨ ∃ g, og5 = some g ∧ w.heap.size + 2 ≤ g := by
    rcases hog5 with hx | ⟨g, hx, hg⟩
    · exact .inl hx
    · exact .inr ⟨g, hx, by omega⟩
  have hne5 : og5 ≠ some b := by
    rintro rfl
    rcases hog with hx | ⟨g, hx, hg⟩
    · exact h.set.2.2 hx.symm
    · cases hx; omega
  have hu5 : Upd (fun j => j = b) w5 (w5.setCell ⟨b, 1, none⟩ (.slice oa5 n5 cap5)) := Upd.setCell (Upd.refl (fun j => j = b) w5) ⟨b, 1, none⟩ (.inl rfl) _
  have hlo : ∀ j u, j < c → b ≠ j → (∀ g, og = some g → g ≠ j) → wc.cell? ⟨j, 0, none⟩ = some u → (w5.setCell ⟨b, 1, none⟩ (.slice oa5 n5 cap5)).cell? ⟨j, 0, none⟩ = some u := by
    intro j u hj hbj hgj hc
    rw [← hc]
    apply World.cell?_of_block
    rw [hu5.block j (by have := hup.size; simp at this; omega) (fun e => hbj e.symm), hup.block j (by simp; omega) (fun e => hgj j e rfl)]
    exact Below.heap_alloc _ _ _ (by omega)
  refine ⟨⟨_, set_store hb5 _, hsl.keeps hu5 (fun g hg e => hne5 (by rw [hg, e])), hne5⟩, ?_, hlo _ _ (by omega) (by omega) (fun g hg => by have := hgl g hg; omega) h.lo, hlo _ _ (by omega) (by omega) (fun g hg => by have := hgl g hg; omega) h.hi, hog⟩
  refine Upd.trans (F := fun _ => False) (G := fun j => j = b ∨ og = some j) (b := (wc.alloc o).drew) ?_ ?_ (fun _ _ x => x.elim) (fun _ _ x => x)
  · exact (Upd.below ((h.below.alloc (by omega) o).drew)).mono (fun i hi x => by omega)
  · exact (hup.mono (fun _ _ x => .inr x)).then (hu5.mono (fun _ _ x => .inl x))
theorem Turned.next {w w1 w2 : World} {b : Nat} {most : Int} {og og1 : Option Nat} {ys : List Rg} (h : Turned w1 b most og1 ys w2) (hu : Upd (fun j => j = b ∨ og = some j) w w1) (hog : og1 = og ∨ ∃ g, og1 = some g ∧ w.heap.size ≤ g) :
    Turned w b most og ys w2 := by
  obtain ⟨og2, hs, ho, hu2⟩ := h
  refine ⟨og2, hs, ?_, hu.trans hu2 (fun _ _ x => x) ?_⟩
  · rcases ho with rfl | rfl | ⟨g, rfl, hg⟩
    · rcases hog with rfl | hx
      · exact .inl rfl
      · exact .inr (.inr hx)
    · exact .inr (.inl rfl)
    · exact .inr (.inr ⟨g, rfl, Nat.le_trans hu.size hg⟩)
  · intro i hi x
    rcases x with x | x
    · exact .inl x
    · rcases hog with rfl | ⟨g, rfl, hg⟩
      · exact .inr x
      · cases x; omega
theorem Turned.cell {w1 w2 : World} {b : Nat} {most : Int} {og1 : Option Nat} {ys : List Rg} (h : Turned w1 b most og1 ys w2) {j : Nat} {u : Value} (hc : w1.cell? ⟨j, 0, none⟩ = some u) (hb : j ≠ b) (hg : og1 ≠ some j) : w2.cell? ⟨j, 0, none⟩ = some u := by
  obtain ⟨og2, hs, ho, hu2⟩ := h
  rw [← hc]
  apply World.cell?_of_block
  exact hu2.block j (cell_in hc) (fun x => x.elim hb (fun x => hg x))
theorem Turned.later {w w1 w2 : World} {b : Nat} {most : Int} {og : Option Nat} {ys : List Rg} (h : Turned w b most og ys w1) (hb : Below w1.heap.size w1 w2) : Turned w b most og ys w2 := by
  obtain ⟨og2, hs, ho, hu⟩ := h
  exact ⟨og2, hs.below hb, ho, hu.trans (Upd.below hb) (fun _ _ x => x) (fun i hi x => by have := hu.size; omega)⟩
theorem Turned.ofBelow {w w1 : World} {b : Nat} {most : Int} {og : Option Nat} {ys : List Rg} (h : SetAt w b most og ys) (hb : Below w.heap.size w w1) : Turned w b most og ys w1 :=
  ⟨og, h.below hb, .inl rfl, (Upd.below hb).mono (fun i hi x => by omega)⟩

theorem minI (a b : Nat) : (if b < a then (b : Int) else (a : Int)) = ((min a b : Nat) : Int) := by split <;> omega
theorem maxI (a b : Nat) : (if a < b then (b : Int) else (a : Int)) = ((max a b : Nat) : Int) := by split <;> omega

set_option maxRecDepth 100000 in
set_option maxHeartbeats 2000000 in
theorem add_yes (b : Nat) (most : Int) (og : Option Nat) (xs : List Rg) (lo hi : Nat) (w : World) (h : SetAt w b most og xs) (hm : 1 ≤ most) (hm2 : most ≤ 9223372036854775807) (hlen : (xs.length + 1) * 16 ≤ 140737488355328) (h1 : lo < hi) (h2 : hi ≤ 4611686018427387904) :
    Calls Try.prog 44 #[.pointer (some ⟨b, 0, none⟩), .int .u64 lo, .int .u64 hi] w fun e w' => e = .returned (.bool ((addL most xs lo hi).any (meetP lo hi))) ∧ Turned w b most og (addL most xs lo hi) w' := by
  obtain ⟨v, hset⟩ := h
  obtain ⟨oa, cap, rfl, hcap, hcap2⟩ := hset.2.1.shape
  have hbl := heap_lt hset.1
  obtain ⟨W, hW⟩ : ∃ W, W = (w.alloc (.cells #[.int .u64 lo] 24)).alloc (.cells #[.int .u64 hi] 24) := ⟨_, rfl⟩
  have hB : Below w.heap.size w W := by rw [hW]; exact ((Below.refl _ _).alloc (Nat.le_refl _) _).alloc (by simp) _
  have hsz : W.heap.size = w.heap.size + 2 := by rw [hW]; simp
  have hset2 : SetIs W b most (.slice oa xs.length cap) og xs := hset.below hB
  have c1 : W.cell? ⟨b, 1, none⟩ = some (.slice oa xs.length cap) := by
    have := cell_at hset2.1 1
    simpa using this
  have cl : W.cell? ⟨w.heap.size, 0, none⟩ = some (.int .u64 lo) := by rw [hW]; simp
  have ch : W.cell? ⟨w.heap.size + 1, 0, none⟩ = some (.int .u64 hi) := by rw [hW]; simp
  have HG0 := Lib.hid (show ∀ g, og = some g → g < w.heap.size from hset.2.1.lt)
  have HSET := Lib.hid hset2
  have HB := Lib.hid hB
  have HSZ := Lib.hid hsz
  clear hset hset2 hB hsz
  generalize hn : xs.length = n at *
  have HN := Lib.hid hn
  clear hn
  have hil := iOf_le xs lo
  go_enter Try.func44, Try.ntmps44
  have HW := Lib.hid hW
  clear hW
  go_upto_block 0 with fail
  rw [← HW.out]
  go_cut [7] (fun i wx => i = .int .i64 (iOf xs lo) ∧ ∃ q, wx = W.drewN q)
  case first =>
    go_wp2_with fail
    go_loopw [7] (fun i wr => ∃ j q : Nat, i = .int .i64 j ∧ j ≤ iOf xs lo ∧ wr = W.drewN q) (fun i _ => n - (intOf i).toNat)
    case atStart => exact ⟨0, 0, rfl, by omega, rfl⟩
    case round =>
      obtain ⟨j, q, rfl, hj, rfl⟩ := hrel
      rw [HN.out] at hil
      by_cases hlt : j < iOf xs lo
      · obtain ⟨r, hr, hr2⟩ := iOf_lt hlt
        obtain ⟨g, hog, rfl, hgl, c2, c3⟩ := HSET.out.2.1.atS hr
        have hjn : (j : Int) < (n : Int) := by omega
        clear hr hog c2
        go_wp2_with fail
        go_quiet (fail)
        go_wp2
        go_roundw
        case rel => exact ⟨j + 1, _, by go_num, by omega, rfl⟩
        case measure => simp [intOf]; omega
      · obtain rfl : j = iOf xs lo := by omega
        generalize hj' : iOf xs lo = j at *
        have HJ := Lib.hid hj'
        clear hj'
        by_cases hjn : j < n
        · obtain ⟨r, hr⟩ : ∃ r, xs[j]? = some r := ⟨_, List.getElem?_eq_getElem (by rw [HN.out]; exact hjn)⟩
          obtain ⟨g, hog, rfl, hgl, c2, c3⟩ := HSET.out.2.1.atS hr
          have hr2 : lo ≤ r.2 := iOf_end (xs := xs) (by rw [HJ.out]; exact hr)
          clear hr hog c2
          go_wp2_with fail
          go_quiet (fail)
          go_wp2
          go_meet
          exact ⟨rfl, _, World.drewN_drewN _ _ _⟩
        · go_wp2_with fail
          go_quiet (fail)
          go_wp2
          go_meet
          exact ⟨rfl, _, World.drewN_drewN _ _ _⟩
  case rest =>
    obtain ⟨rfl, q, hwc⟩ := hcut
    have HSET1 := Lib.hid (show SetIs wc b most (.slice oa n cap) og xs by rw [hwc]; exact HSET.out)
    have HB1 := Lib.hid (show Below w.heap.size w wc by rw [hwc]; exact below_drewN HB.out q)
    have HSZ1 := Lib.hid (show wc.heap.size = w.heap.size + 2 by rw [hwc]; exact HSZ.out)
    replace c1 : wc.cell? ⟨b, 1, none⟩ = some (.slice oa n cap) := by rw [hwc]; exact c1
    replace cl : wc.cell? ⟨w.heap.size, 0, none⟩ = some (.int .u64 lo) := by rw [hwc]; exact cl
    replace ch : wc.cell? ⟨w.heap.size + 1, 0, none⟩ = some (.int .u64 hi) := by rw [hwc]; exact ch
    clear hwc HSET HB HSZ HW
    go_upto_block 2 with fail
    have H0 := Lib.hid (show AddSt w (wc.alloc (.cells #[.int .u64 lo, .int .u64 hi] 93)) b most (.slice oa n cap) og xs lo hi wc.heap.size (lo, hi) from
      ⟨HSET1.out.below ((Below.refl _ _).alloc (Nat.le_refl _) _), Lib.cell?_alloc_some _ cl, Lib.cell?_alloc_some _ ch, alloc_at _ _, HB1.out.alloc (by rw [HSZ1.out]; omega) _, by simp, by rw [HSZ1.out]; omega⟩)
    have hgl : ∀ g, og = some g → g < w.heap.size := HG0.out
    have HGL := Lib.hid hgl
    clear hgl HSET1 HB1 HSZ1 c1 cl ch
    generalize wc.alloc (.cells #[.int .u64 lo, .int .u64 hi] 93) = wd at *
    generalize wc.heap.size = c at *
    have hkl := kOf_le hi (iOf_le xs lo)
    have hkg := kOf_ge xs (iOf xs lo) hi
    rw [HN.out] at hkl hil
    generalize hie : iOf xs lo = i0 at *
    have HIE := Lib.hid hie
    clear hie
    go_cut [9] (fun kv wx => kv = .int .i64 (kOf xs i0 hi) ∧ AddSt w wx b most (.slice oa n cap) og xs lo hi c (fuse (lo, hi) ((xs.take (kOf xs i0 hi)).drop i0)))
    case first =>
      go_wp2_with fail
      go_loopw [9] (fun kv wr => ∃ k : Nat, kv = .int .i64 k ∧ i0 ≤ k ∧ k ≤ kOf xs i0 hi ∧ AddSt w wr b most (.slice oa n cap) og xs lo hi c (fuse (lo, hi) ((xs.take k).drop i0))) (fun kv _ => n - (intOf kv).toNat)
      case atStart => exact ⟨i0, rfl, by omega, hkg, by rw [show (xs.take i0).drop i0 = [] by simp]; exact H0.out⟩
      case round =>
        obtain ⟨k, rfl, hk1, hk2, hst⟩ := hrel
        have HST := Lib.hid hst
        have cb := cell_at hst.set.1 1
        have cl := hst.lo
        have ch := hst.hi
        have cr0 := cell_at hst.cur 0
        have cr1 := cell_at hst.cur 1
        have fr0 := free_at hst.cur 0
        have fr1 := free_at hst.cur 1
        simp at cb cr0 cr1
        clear hst H0
        by_cases hlt : k < kOf xs i0 hi
        · obtain ⟨r, hr, hr2⟩ := kOf_lt hk1 hlt
          obtain ⟨g, hog, rfl, _, c2, c3⟩ := HST.out.set.2.1.atS hr
          have hkn : (k : Int) < (n : Int) := by omega
          have HF := Lib.hid (fuse_step (r := (lo, hi)) hk1 hr)
          have hgc : g ≠ c := fun e => by have h1 := HGL.out g hog; have h2 := HST.out.far; omega
          clear hr hog
          generalize fuse (lo, hi) ((xs.take k).drop i0) = f at *
          go_wp2_with fail
          go_quiet (fail)
          go_wp2_with fail
          go_region
          go_wp2
          go_roundw
          case rel =>
            refine ⟨k + 1, by go_num, by omega, by omega, ?_⟩
            rw [HF.out]
            have hp := (HST.out.drewN (nq + 1)).put hbl HGL.out (min f.1 r.1, max f.2 r.2)
            rw [minI, maxI]
            exact hp
          case measure => simp [intOf]; omega
        · obtain rfl : k = kOf xs i0 hi := by omega
          generalize hke : kOf xs i0 hi = k at *
          have HKE := Lib.hid hke
          clear hke
          by_cases hkn : k < n
          · obtain ⟨r, hr⟩ : ∃ r, xs[k]? = some r := ⟨_, List.getElem?_eq_getElem (by rw [HN.out]; exact hkn)⟩
            obtain ⟨g, hog, rfl, _, c2, c3⟩ := HST.out.set.2.1.atS hr
            have hr2 : hi < r.1 := kOf_end (xs := xs) (by rw [HKE.out]; exact hr)
            clear hr hog c3
            go_wp2_with fail
            go_quiet (fail)
            go_wp2
            go_meet
            exact ⟨rfl, HST.out.drewN _⟩
          · go_wp2_with fail
            go_quiet (fail)
            go_wp2
            go_meet
            exact ⟨rfl, HST.out.drewN _⟩
    case rest =>
      obtain ⟨rfl, hst⟩ := hcut
      generalize hke : kOf xs i0 hi = k at *
      have HKE := Lib.hid hke
      have HST := Lib.hid hst
      have cb := cell_at hst.set.1 1
      have cr0 := cell_at hst.cur 0
      have cr1 := cell_at hst.cur 1
      simp at cb cr0 cr1
      clear hst H0 hke
      generalize hfe : fuse (lo, hi) ((xs.take k).drop i0) = f at *
      have HFE := Lib.hid hfe
      clear hfe
      have hrep := replace_any (.slice oa n cap) og xs i0 k wc.heap.size f (wc.alloc (.cells #[.int .u64 f.1, .int .u64 f.2] 93)).drew
        (by exact HST.out.set.2.1.below ((Below.refl wc.heap.size wc).alloc (Nat.le_refl _) (.cells #[.int .u64 f.1, .int .u64 f.2] 93)).drew) hkg (by rw [HN.out]; exact hkl) (by exact alloc_at _ _)
        (fun e => by have h1 := HGL.out _ e; have h2 := HST.out.size; have h3 := HST.out.far; omega) (by rw [HN.out]; exact hlen)
      have hbw : (wc.alloc (.cells #[.int .u64 f.1, .int .u64 f.2] 93)).drew.heap[b]? = some (.cells #[.int .i64 most, .slice oa n cap] 98 (0, 0)) := alloc_old HST.out.set.1
      have hne := HST.out.set.2.2
      have HREP := Lib.hid (hrep.mono (R' := fun e w5 => ∃ oa5 n5 cap5 og5, e = .returned (.slice oa5 n5 cap5) ∧ Sl w5 (.slice oa5 n5 cap5) og5 (xs.take i0 ++ f :: xs.drop k) ∧
          (og5 = og ∨ ∃ g, og5 = some g ∧ wc.heap.size + 1 ≤ g) ∧ Upd (fun j => og = some j) (wc.alloc (.cells #[.int .u64 f.1, .int .u64 f.2] 93)).drew w5 ∧ w5.cell? ⟨b, 1, none⟩ = some (.slice oa n cap) ∧ w5.frozen? ⟨b, 1, none⟩ = false ∧
          w5.heap[b]? = some (.cells #[.int .i64 most, .slice oa n cap] 98 (0, 0)))
        (by
          rintro e w5 ⟨v5, og5, rfl, hsl, ho, hup⟩
          obtain ⟨oa5, cap5, rfl, _, _⟩ := hsl.shape
          have hb5 := hup.keeps hbw hne
          have cb5 := cell_at hb5 1
          exact ⟨_, _, _, og5, rfl, hsl, by simpa using ho, hup, by simpa using cb5, free_at hb5 1, hb5⟩))
      clear hrep hbw
      have cba := fun o => Lib.cell?_alloc_some o cb
      go_wp2_with fail
      go_region_with (go_at_call 59; refine HREP.out.mono ?_; rintro e w5 ⟨oa5, n5, cap5, og5, rfl, hsl, hog5, hup, cb5, fb5, hb5⟩)
      all_goals (have HF := Lib.hid (add_fin HST.out hbl HGL.out hsl hog5 hup hb5))
      all_goals (have fb6 := cell_at (set_store hb5 (.slice oa5 n5 cap5)) 1)
      all_goals clear hsl hog5 hup cb5 fb5 hb5 cba cb cr0 cr1 HREP HST
      all_goals go_wp2_with fail
      all_goals (refine (trim_any _ _ _ _ _ HF.out.1 hm hm2).mono ?_; rintro e w7 ⟨rfl, ht⟩)
      all_goals (have HT := Lib.hid ht)
      all_goals (have cl7 := Lib.hid (ht.cell HF.out.2.2.1 (by omega) (by rintro rfl; rcases HF.out.2.2.2.2 with hx | ⟨g, hx, hg⟩; (have := HGL.out _ hx.symm; omega); (cases hx; omega))))
      all_goals (have ch7 := Lib.hid (ht.cell HF.out.2.2.2.1 (by omega) (by rintro rfl; rcases HF.out.2.2.2.2 with hx | ⟨g, hx, hg⟩; (have := HGL.out _ hx.symm; omega); (cases hx; omega))))
      all_goals obtain ⟨og7, ⟨v7, hs7⟩, _, _⟩ := ht
      all_goals (have cb7 := cell_at hs7.1 1)
      all_goals simp at cb7
      all_goals (have HS7 := Lib.hid hs7.2.1)
      all_goals clear hs7 fb6
      all_goals go_wp2_with fail
      all_goals (refine (contains_meet lo hi w.heap.size (w.heap.size + 1) v7 og7 _ w7 HS7.out cl7.out ch7.out).mono ?_; rintro e w8 ⟨rfl, hb8⟩)
      all_goals (have HB8 := Lib.hid hb8)
      all_goals (have hadd : addL most xs lo hi = trimL most (xs.take i0 ++ f :: xs.drop k) := by unfold addL addRaw; rw [HIE.out, HKE.out, HFE.out])
      all_goals (have HADD := Lib.hid hadd)
      all_goals clear hadd hb8 cb7
      all_goals go_wp2
      all_goals go_ret
      all_goals rw [HADD.out]
      all_goals exact ⟨rfl, (HT.out.next HF.out.2.1 (HF.out.2.2.2.2.imp id (fun ⟨g, h1, h2⟩ => ⟨g, h1, by omega⟩))).later HB8.out⟩

theorem add_any (b : Nat) (most : Int) (og : Option Nat) (xs : List Rg) (lo hi : Nat) (w : World) (h : SetAt w b most og xs) (hm : 1 ≤ most) (hm2 : most ≤ 9223372036854775807) (hlen : (xs.length + 1) * 16 ≤ 140737488355328) :
    Calls Try.prog 44 #[.pointer (some ⟨b, 0, none⟩), .int .u64 lo, .int .u64 hi] w fun e w' =>
      e = .returned (.bool (if lo < hi ∧ hi ≤ 4611686018427387904 then (addL most xs lo hi).any (meetP lo hi) else false)) ∧ Turned w b most og (if lo < hi ∧ hi ≤ 4611686018427387904 then addL most xs lo hi else xs) w' := by
  by_cases hc : lo < hi ∧ hi ≤ 4611686018427387904
  · simp only [hc, and_self, if_true]
    exact add_yes b most og xs lo hi w h hm hm2 hlen hc.1 hc.2
  · simp only [hc, if_false]
    exact (add_no b lo hi w hc).mono fun e w' ⟨he, hb⟩ => ⟨he, Turned.ofBelow h hb⟩
end Go.Proofs.Ytebiebcpdjipjaa
