/- DERIVED. Walk of inbuf's Take. -/
import Derived.Test.YtebiebcpdjipjaaInfoB
import Derived.Test.YtebiebcpdjipjaaInbErr
import Derived.Test.YtebiebcpdjipjaaInbLaw
import Derived.Deep.RegionLaw
import Derived.OwnWalk
namespace Go.Proofs.Ytebiebcpdjipjaa
open Go.RowKit

theorem badd_any (b : Nat) (s : IB) (fp : Nat → Prop) (off : Nat) (vd : Value) (d : List Nat) (f : Bool) (w : World) (h : IbAt w b s fp) (hd : VwA encB fp w vd d) (hb : Bys d) (hoff : off < 18446744073709551616) :
    Calls Try.prog 23 #[.pointer (some ⟨b, 0, none⟩), .int .u64 off, vd, .bool f] w fun e w' => e = .returned (.int .i64 (s.err off d.length f : Nat)) ∧ ∃ fp', IbAt w' b (s.add off d f) fp' ∧ Went fp fp' w w' := by
  by_cases he : s.err off d.length f = 0
  · refine (badd_ok b s fp off vd d f w h hd hb hoff he).mono ?_
    rintro e w' ⟨rfl, fp', h1, h2⟩
    rw [he]
    refine ⟨rfl, fp', ?_, h2⟩
    unfold IB.add
    rw [if_pos he]
    exact h1
  · refine (badd_err b s fp off vd d f w h hd hoff he).mono ?_
    rintro e w' ⟨rfl, rfl⟩
    refine ⟨rfl, fp, ?_, Went.refl _ _⟩
    unfold IB.add
    rw [if_neg he]
    exact h
theorem CameIs.takeN {s : IB} {xs : List Rg} (h : CameIs s xs) {n : Nat} (hn : n ≤ rdy s.L) : CameIs (s.take n) xs := by
  refine ⟨h.1, fun k => ?_⟩
  rw [h.2 k, came_take hn]
  by_cases h1 : k < s.rd + n
  · by_cases h2 : k < s.rd
    · simp [IB.came, h2]
    · obtain ⟨v, hv⟩ := rdy_lt (L := s.L) (j := k - s.rd) (by omega)
      simp [IB.came, hv, h1]
  · simp [h1]
theorem take_rdy {L : List (Option Nat)} {n : Nat} (hn : n ≤ rdy L) : rdy (L.drop n) = rdy L - n := by
  apply rdy_is
  · intro j hj
    rw [gt_drop]
    obtain ⟨v, hv⟩ := rdy_lt (L := L) (j := n + j) (by omega)
    rw [hv]
    rfl
  · rw [gt_drop, show n + (rdy L - n) = rdy L by omega]
    exact rdy_end L
theorem IbAt.next {w : World} {b k : Nat} {s : IB} {fp : Nat → Prop} (h : IbAt w b (s.take k) fp) (hk : k < rdy s.L) : IbAt (w.setCell ⟨b, 0, none⟩ (.int .u64 ((s.rd + k + 1 : Nat) : Int))) b (s.take (k + 1)) fp := by
  obtain ⟨c, og, xs, cs, h, rfl⟩ := h
  have hu : Upd (fun j => j = b) w (w.setCell ⟨b, 0, none⟩ (.int .u64 ((s.rd + k + 1 : Nat) : Int))) := Upd.setCell (Upd.refl (fun j => j = b) w) ⟨b, 0, none⟩ (.inl rfl) _
  have e1 : (s.take k).take 1 = s.take (k + 1) := by simp [IB.take, Nat.add_assoc]
  have hr : 1 ≤ rdy (s.take k).L := by
    show 1 ≤ rdy (s.L.drop k)
    rw [take_rdy (by omega)]
    omega
  have hi := h.is.takeN hr
  have ho := IB.take_ok h.ok hr
  rw [e1] at hi ho
  refine ⟨c, og, xs, _, ⟨set_at h.blk 0 _, by simpa using h.size, ?_, ?_, ?_, ?_, ?_, ?_, h.came.keeps hu (fun e => h.ne e) (fun g hg e => h.apart (by rw [hg, e])), hi, ho, h.ne, h.apart⟩, rfl⟩
  · simp [h.size, IB.take, Nat.add_assoc]
  · simp; exact h.c1
  · simp; exact h.c2
  · simp; exact h.c3
  · intro j v hv
    rw [Array.getElem?_setIfInBounds, if_neg (by omega)]
    have := h.ring (j + 1) v (by
      simp only [IB.take] at hv ⊢
      rw [gt_drop] at hv ⊢
      rw [← hv]
      congr 1
      omega)
    rw [← this]
    simp only [IB.take]
    congr 3
    omega
  · simp; exact h.c5
theorem IbAt.byte {w : World} {b k : Nat} {s : IB} {fp : Nat → Prop} (h : IbAt w b (s.take k) fp) {v : Nat} (hv : gt s.L k = some v) : w.cell? ⟨b, 4 + (s.rd + k) % 2048, none⟩ = some (.int .u8 v) := by
  obtain ⟨c, og, xs, cs, h, _⟩ := h
  rw [cell_at h.blk]
  have := h.ring 0 v (by simp only [IB.take]; rw [gt_drop]; exact hv)
  simpa [IB.take] using this
theorem out_snoc {s : IB} {k v : Nat} (h : gt s.L k = some v) : s.out (k + 1) = s.out k ++ [v] := by
  unfold IB.out
  rw [List.take_add_one, bytesOf_get h]
  rfl
theorem IbAt.free0 {w : World} {b : Nat} {s : IB} {fp : Nat → Prop} (h : IbAt w b s fp) : w.frozen? ⟨b, 0, none⟩ = false := by
  obtain ⟨c, og, xs, cs, h, _⟩ := h
  exact free_at h.blk 0
/-- In the middle of Take. -/
structure TakeMid (w wr : World) (b : Nat) (s : IB) (fp : Nat → Prop) (k : Nat) (v : Value) : Prop where
  buf : IbAt wr b (s.take k) fp
  upd : Upd fp w wr
  out : ∃ og, SlG encB 5 wr v og (s.out k) ∧ ∀ g, og = some g → w.heap.size ≤ g

theorem TakeMid.bufOf {w wr W1 : World} {b : Nat} {s : IB} {fp : Nat → Prop} {k : Nat} {v : Value} {o : Obj} {og : Option Nat} (h : TakeMid w wr b s fp k v) (hw : fp b ∧ ∀ j, fp j → j < w.heap.size) (hg : ∀ g, og = some g → w.heap.size ≤ g)
    (hu : Upd (fun j => og = some j) (wr.alloc o).drew W1) : IbAt W1 b (s.take k) fp :=
  (h.buf.below (((Below.refl wr.heap.size wr).alloc (Nat.le_refl _) o).drew)).keeps hu (fun j hj e => by
    have := hw.2 j hj
    have := hg j e
    omega)
theorem TakeMid.kept {w wr W1 : World} {b : Nat} {s : IB} {fp : Nat → Prop} {k : Nat} {v : Value} {o : Obj} {og : Option Nat} {z : Nat} (h : TakeMid w wr b s fp k v) (hw : fp b ∧ ∀ j, fp j → j < w.heap.size) (hg : ∀ g, og = some g → w.heap.size ≤ g)
    (hu : Upd (fun j => og = some j) (wr.alloc o).drew W1) (hz : s.rd + k = z) : W1.cell? ⟨b, 0, none⟩ = some (.int .u64 z) ∧ W1.frozen? ⟨b, 0, none⟩ = false := by
  have hb := h.bufOf hw hg hu
  refine ⟨?_, hb.free0⟩
  rw [hb.cells.1, ← hz]
  rfl
theorem TakeMid.next {w wr W1 : World} {b : Nat} {s : IB} {fp : Nat → Prop} {k x z : Nat} {v v1 : Value} {o : Obj} {og og1 : Option Nat} (h : TakeMid w wr b s fp k v) (hw : fp b ∧ ∀ j, fp j → j < w.heap.size) (hk : k < rdy s.L) (hx : gt s.L k = some x) (hg : ∀ g, og = some g → w.heap.size ≤ g)
    (hs : SlG encB 5 W1 v1 og1 (s.out k ++ [x])) (ho : og1 = og ∨ ∃ g, og1 = some g ∧ (wr.alloc o).drew.heap.size ≤ g) (hu : Upd (fun j => og = some j) (wr.alloc o).drew W1) (hz : s.rd + k = z) :
    TakeMid w (W1.setCell ⟨b, 0, none⟩ (.int .u64 ((z : Int) + 1))) b s fp (k + 1) v1 := by
  have hb := h.bufOf hw hg hu
  have hbl := hw.2 b hw.1
  have e : ((z : Int) + 1) = ((s.rd + k + 1 : Nat) : Int) := by omega
  rw [e]
  have hg1 : ∀ g, og1 = some g → w.heap.size ≤ g := by
    intro g hg'
    rcases ho with rfl | ⟨g2, rfl, h4⟩
    · exact hg g hg'
    · cases hg'
      have := h.upd.size
      have e2 : (wr.alloc o).drew.heap.size = wr.heap.size + 1 := by simp
      omega
  have hu2 : Upd (fun j => j = b) W1 (W1.setCell ⟨b, 0, none⟩ (.int .u64 ((s.rd + k + 1 : Nat) : Int))) := Upd.setCell (Upd.refl (fun j => j = b) W1) ⟨b, 0, none⟩ (.inl rfl) _
  refine ⟨hb.next hk, ?_, og1, ?_, hg1⟩
  · have a1 : Upd fp w (wr.alloc o).drew := (h.upd.alloc o).drew
    have a2 := a1.trans hu (H := fp) (fun _ _ q => q) (fun j hj q => by have := hg j q; omega)
    exact a2.trans hu2 (H := fp) (fun _ _ q => q) (fun j _ q => by rw [q]; exact hw.1)
  · rw [out_snoc hx]
    refine hs.keeps hu2 ?_
    intro g hg' e3
    have := hg1 g hg'
    omega
theorem BufAt.addZero {w w3 : World} {b : Nat} {s : IB} {c : Nat} {og : Option Nat} {xs : List Rg} {cs : Array Value} {fp : Nat → Prop} {z : Nat} (h : BufAt w b s c og xs cs) (hfp : fp = fun j => j = b ∨ j = c ∨ og = some j) (hz : s.rd = z) (hz2 : z ≤ 4611686018427387904)
    (t : Turned w.drew c 2048 og (if 0 < z ∧ z ≤ 4611686018427387904 then addL 2048 xs 0 z else xs) w3) : ∃ fp', IbAt w3 b s fp' ∧ Went fp fp' w w3 := by
  obtain ⟨og', h1, h2, h3⟩ := t
  have hb := heap_lt h.blk
  have hi : CameIs s (if 0 < z ∧ z ≤ 4611686018427387904 then addL 2048 xs 0 z else xs) := by
    by_cases hz0 : 0 < z
    · rw [if_pos ⟨hz0, hz2⟩]
      have h5 := h.is.few h.ok
      have h6 := addN_len xs (0, z)
      have e : addL 2048 xs 0 z = addN xs (0, z) := by
        unfold addL
        rw [addRaw_is hz0 xs h.is.1, trim_all (by omega)]
      have h7 := h.is.take (n := 0) (Nat.zero_le _) (by omega) (by omega)
      rw [Nat.add_zero, hz] at h7
      rw [e]
      exact h7
    · rw [if_neg (by omega)]
      exact h.is
  have hne : ¬ (b = c ∨ og = some b) := by
    rintro (x | x)
    · exact h.ne x.symm
    · exact h.apart x
  refine ⟨fun j => j = b ∨ j = c ∨ og' = some j, ⟨c, og', _, cs, ⟨h3.keeps h.blk hne, h.size, h.c0, h.c1, h.c2, h.c3, h.ring, h.c5, h1, hi, h.ok, h.ne, ?_⟩, rfl⟩, ⟨?_, ?_⟩⟩
  · rcases h2 with rfl | rfl | ⟨g, rfl, h4⟩
    · exact h.apart
    · simp
    · intro e
      cases e
      have : w.drew.heap.size = w.heap.size := rfl
      omega
  · rw [hfp]
    exact ((Upd.refl (fun j => j = b ∨ j = c ∨ og = some j) w).drew).trans h3 (fun _ _ q => q) (fun j _ q => .inr q)
  · intro k hk
    rw [hfp]
    rcases hk with hk | hk | hk
    · exact .inl (.inl hk)
    · exact .inl (.inr (.inl hk))
    · rcases h2 with rfl | rfl | ⟨g, rfl, h4⟩
      · exact .inl (.inr (.inr hk))
      · cases hk
      · cases hk
        exact .inr h4
theorem clip_q (oa : Option Addr) (n cap : Nat) (w : World) (h1 : n ≤ cap) (_h2 : cap ≤ 9223372036854775807) :
    Calls Try.prog 47 #[.slice oa n cap] w fun e w' => e = .returned (.slice oa n n) ∧ ∃ q, w' = w.drewN q := by
  go_enter Try.func47, Try.ntmps47
  go_wp2_with fail
  go_ret
  exact ⟨rfl, 0, rfl⟩
theorem SlG.clip {fp : Nat → Prop} {w : World} {oa : Option Addr} {n cap : Nat} {og : Option Nat} {xs : List Nat} (h : SlG encB 5 w (.slice oa n cap) og xs) (ha : ∀ g, og = some g → ¬ fp g) (hn : xs.length = n) : VwA encB fp w (.slice oa n n) xs := by
  subst hn
  rcases h with ⟨h1, rfl, rfl⟩ | ⟨g, ys, rfl, h1, hr, hl⟩
  · cases h1
    exact ⟨none, 0, rfl, by simp, by omega, .inl rfl⟩
  · cases h1
    refine ⟨_, _, rfl, Nat.le_refl _, by omega, .inr ⟨g, 0, rfl, heap_lt hr, ha g rfl, ?_⟩⟩
    intro j u hj
    rw [Nat.zero_add, hr.cell, flat_append, List.getElem?_append_left (by rw [List.getElem?_eq_some_iff] at hj; exact hj.1)]
    exact hj

set_option maxRecDepth 100000 in
set_option maxHeartbeats 2000000 in
theorem btake_any (b : Nat) (s : IB) (fp : Nat → Prop) (m : Int) (w : World) (h : IbAt w b s fp) (hm : -9223372036854775808 ≤ m) (hm2 : m ≤ 9223372036854775807) {n : Nat} (hn : s.num m = n) :
    Calls Try.prog 26 #[.pointer (some ⟨b, 0, none⟩), .int .i64 m] w
      fun e w' => ∃ v' fp', e = .returned (.tuple #[v', .bool (s.take n).last]) ∧ IbAt w' b (s.take n) fp' ∧ Went fp fp' w w' ∧ VwA encB (fun k => k < w.heap.size ∨ fp' k) w' v' (s.out n) := by
  obtain ⟨i0, hi0, hz0, hz1, hz2'⟩ := info_parts infoB
  have hnr := s.num_le m
  rw [hn] at hnr
  obtain ⟨hb1, hb3, hb4, hb2⟩ := h.bd
  have H := Lib.hid h
  have hrl : rdy s.L ≤ 2048 := Nat.le_trans (rdy_le _) h.ok.len
  clear h
  go_enter Try.func26, Try.ntmps26
  go_upto_region 1 with fail
  go_cut [6] (fun v wx => v = .int .i64 n ∧ Below w.heap.size w wx)
  case first =>
    have hnn : (0 < m ∧ (rdy s.L : Int) < m ∧ n = rdy s.L) ∨ (0 < m ∧ ¬ (rdy s.L : Int) < m ∧ (n : Int) = m) ∨ (¬ 0 < m ∧ n = 0) := by
      unfold IB.num at hn
      omega
    clear hn
    generalize hrr : rdy s.L = rr at *
    have HRR := Lib.hid hrr
    clear hrr
    rcases hnn with ⟨h1, h2, h3⟩ | ⟨h1, h2, h3⟩ | ⟨h1, h3⟩
    · go_wp2_with fail
      refine (bRdy_any b s fp _ (by exact H.out)).mono ?_
      rw [HRR.out]
      rintro e w1 ⟨rfl, hb⟩
      go_wp2_with fail
      go_meet
      case rel => exact ⟨by rw [h3], hb⟩
    · go_wp2_with fail
      refine (bRdy_any b s fp _ (by exact H.out)).mono ?_
      rw [HRR.out]
      rintro e w1 ⟨rfl, hb⟩
      go_wp2_with fail
      go_meet
      case rel => exact ⟨by rw [h3], hb⟩
    · go_wp2_with fail
      refine (bRdy_any b s fp _ (by exact H.out)).mono ?_
      rw [HRR.out]
      rintro e w1 ⟨rfl, hb⟩
      have h4 : ¬ (rr : Int) < 0 := by omega
      go_wp2_with fail
      go_meet
      case rel => exact ⟨by rw [h3]; rfl, hb⟩
  case rest =>
    obtain ⟨rfl, hb⟩ := hcut
    have H1 := Lib.hid (H.out.below hb)
    have HB := Lib.hid hb
    clear hb
    have HW := Lib.hid H.out.lt
    have HM0 := Lib.hid (show TakeMid w wc b s fp 0 (.slice none 0 0) from ⟨H1.out, (Upd.below HB.out).mono (fun j hj x => by omega), none, SlG.nil _, by simp⟩)
    clear H1
    go_wp2_with fail
    go_loopw [7, 14] (fun v i wr => ∃ k : Nat, i = .int .i64 k ∧ k ≤ n ∧ TakeMid w wr b s fp k v) (fun _ i _ => n - (intOf i).toNat)
    case atStart => exact ⟨0, rfl, by omega, HM0.out⟩
    case round =>
      obtain ⟨k, rfl, hk, hmid⟩ := hrel
      have HM := Lib.hid hmid
      clear hmid HM0
      obtain ⟨og, hs, hog⟩ := HM.out.out
      have HS := Lib.hid hs
      have HG := Lib.hid hog
      clear hs hog
      by_cases hlt : k < n
      · obtain ⟨x, hx⟩ := rdy_lt (L := s.L) (j := k) (by omega)
        obtain ⟨z, hz, hz2⟩ : ∃ z : Nat, s.rd + k = z ∧ z ≤ 1099511628288 := ⟨_, rfl, by omega⟩
        obtain ⟨m', hmm, hmm2, hmm3⟩ : ∃ m' : Nat, (z : Int).tmod 2048 = (m' : Int) ∧ z % 2048 = m' ∧ (m' : Int) < 2048 := ⟨z % 2048, by rw [Int.tmod_eq_emod_of_nonneg (by omega)]; omega, rfl, by omega⟩
        have c0 := HM.out.buf.cells.1
        have e0 := HM.out.buf.byte hx
        have f0 := HM.out.buf.free0
        rw [show (s.take k).rd = z from hz] at c0
        rw [hz, hmm2] at e0
        have HX := Lib.hid hx
        have HZ := Lib.hid hz
        have hol : (s.out k).length = k := out_len (by omega)
        have HOL := Lib.hid hol
        clear hx hz hmm2 hol
        go_wp2_with fail
        go_region_law (refine step_pushN encB_len encB_one Try.underlying22 hi0 hz1 hz0 zeroB rfl (.tmp 16) (.tmp 27) rfl (by exact (HS.out.alloc _).drew) [x] (by exact Src.block (alloc_at _ _) rfl) rfl rfl rfl (by simp) (by rw [HOL.out, hz2']; simp; omega) (by rw [HOL.out]; simp; omega) ?_; intro W1 v1 og1 hs1 ho1 hu1)
        all_goals have HN1 := Lib.hid (HM.out.next HW.out (by omega) HX.out HG.out hs1 ho1 hu1 HZ.out)
        all_goals obtain ⟨e1, f1⟩ := HM.out.kept HW.out HG.out hu1 HZ.out
        all_goals clear hs1 ho1 hu1 c0 e0 f0
        all_goals go_wp2
        all_goals go_roundw
        all_goals first
          | (case rel => exact ⟨k + 1, by go_num, by omega, HN1.out⟩)
          | (case measure => simp [intOf]; omega)
      · obtain rfl : k = n := by omega
        obtain ⟨z, hz, hz2⟩ : ∃ z : Nat, (s.take k).rd = z ∧ z ≤ 1099511628288 := ⟨_, rfl, by simp only [IB.take]; omega⟩
        obtain ⟨c, og0, xs, cs, hbuf, hfp⟩ := HM.out.buf
        have hfew := hbuf.is.few hbuf.ok
        have c0 : wr.cell? ⟨b, 0, none⟩ = some (.int .u64 z) := by rw [cell_at hbuf.blk, hbuf.c0, hz]
        have c5 : wr.cell? ⟨b, 2052, none⟩ = some (.pointer (some ⟨c, 0, none⟩)) := by rw [cell_at hbuf.blk, hbuf.c5]
        have HBF := Lib.hid hbuf
        have HFP := Lib.hid hfp
        have HZ := Lib.hid hz
        clear hbuf hfp hz hlt
        go_wp2_with fail
        go_still_tail 8, (by kernel_rfl)
        change wpList _ _ _ _ _ wr.drew
        go_wp2_with fail
        refine (add_any c 2048 og0 xs 0 z _ (by exact HBF.out.came.below (Below.refl _ _).drew) (by omega) (by omega) (by omega)).mono ?_
        rintro e w3 ⟨rfl, ht⟩
        obtain ⟨fp', hb3, hw3⟩ := HBF.out.addZero HFP.out HZ.out (by omega) ht
        have H3 := Lib.hid hb3
        have HWT := Lib.hid hw3
        have HS3 := Lib.hid (HS.out.keeps hw3.upd (fun g hg e => by have := HG.out g hg; have := HW.out.2 g e; omega))
        have HGL := Lib.hid HS.out.lt
        clear ht hb3 hw3 c0 c5 HBF HS hfew
        obtain ⟨oa, cap, rfl, hc1, hc2⟩ := HS3.out.shape
        have hol : (s.out k).length = k := out_len (by omega)
        rw [hol] at hc1 ⊢
        have HOL := Lib.hid hol
        clear hol
        obtain ⟨c0, c1, c2, c3⟩ := H3.out.cells
        rw [HZ.out] at c0
        have HL := Lib.hid (show (s.take k).last = ((s.take k).kn && decide (z = (s.take k).fin)) by rw [IB.last, HZ.out])
        have HF := Lib.hid (show Went fp fp' w w3 ∧ VwA encB (fun j => j < w.heap.size ∨ fp' j) w3 (.slice oa k k) (s.out k) from by
          refine ⟨⟨HM.out.upd.trans HWT.out.upd (fun _ _ q => q) (fun _ _ q => q), fun j hj => ?_⟩, ?_⟩
          · rcases HWT.out.new j hj with q | q
            · exact .inl q
            · have := HM.out.upd.size
              right
              omega
          · have h9 := HS3.out
            rw [HOL.out] at h9
            refine h9.clip ?_ HOL.out
            intro g hg q
            have q1 := HG.out g hg
            have q2 := HGL.out g hg
            rcases q with q | q
            · omega
            · rcases HWT.out.new g q with q | q
              · have := HW.out.2 g q
                omega
              · omega)
        generalize (s.take k).kn = kn at *
        generalize (s.take k).fin = fin at *
        clear c1 HS3 HM HWT HZ HFP
        cases kn
        · go_wp2_with fail
          go_quiet ((go_at_call 47; exact Calls.quiet_of (clip_q oa k cap _ hc1 hc2)))
          go_wp2_with fail
          go_ret2
          exact ⟨_, fp', by rw [HL.out]; rfl, H3.out.drewN _, HF.out.1.drewN _, HF.out.2.upd ((Upd.refl (fun _ => False) _).drewN _) (fun _ q => q.elim)⟩
        · go_wp2_with fail
          go_quiet ((go_at_call 47; exact Calls.quiet_of (clip_q oa k cap _ hc1 hc2)))
          go_wp2_with fail
          go_ret2
          exact ⟨_, fp', by rw [HL.out, Bool.true_and, ← eqN]; rfl, H3.out.drewN _, HF.out.1.drewN _, HF.out.2.upd ((Upd.refl (fun _ => False) _).drewN _) (fun _ q => q.elim)⟩
end Go.Proofs.Ytebiebcpdjipjaa
