/- DERIVED. Walk of inbuf's Take. -/
import Derived.Deep.RegionLaw
import Derived.OwnWalk
import Derived.Laws.BytesArg
import Derived.Deep.DeepCutAuto
import Derived.Laws.Rows
import Derived.Test.YtebiebcpdjipjaaQ2
import Derived.Test.YtebiebcpdjipjaaQ5
import Derived.Test.YtebiebcpdjipjaaQ6
namespace Go.Proofs.Ytebiebcpdjipjaa
open Go.RowKit

theorem badd_any (b : Nat) (s : IB) (fp : Nat → Prop) (off : Nat) (vd : Value) (d : List Nat) (f : Bool) (w : World) (h : IbAt w b s fp) (hd : VwA encB fp w vd d) (hb : Bys d) (hoff : off < 18446744073709551616) :
    Calls Try.prog 23 #[.pointer (some ⟨b, 0, none⟩), .int .u64 off, vd, .bool f] w fun e w' => e = .returned (.int .i64 (s.err off d.length f : Nat)) ∧ ∃ fp', IbAt w' b (s.add off d f) fp' ∧ Went fp fp' w w' := by
  by_cases he : s.err off d.length f = 0
  · refine (badd_ok b s fp off vd d f w h hd hb hoff he).mono ?_
    rintro e w' ⟨rfl, fp', h1, h2⟩
    rw [he]
    refine ⟨rfl, fp', ?_, h2⟩
    unfold IB.add
    rw [if_pos he]
    exact h1
  · refine (badd_err b s fp off vd d f w h hd hoff he).mono ?_
    rintro e w' ⟨rfl, rfl⟩
    refine ⟨rfl, fp, ?_, Went.refl _ _⟩
    unfold IB.add
    rw [if_neg he]
    exact h
theorem CameIs.takeN {s : IB} {xs : List Rg} (h : CameIs s xs) {n : Nat} (hn : n ≤ rdy s.L) : CameIs (s.take n) xs := by
  refine ⟨h.1, fun k => ?_⟩
  rw [h.2 k, came_take hn]
  by_cases h1 : k < s.rd + n
  · by_cases h2 : k < s.rd
    · simp [IB.came, h2]
    · obtain ⟨v, hv⟩ := rdy_lt (L := s.L) (j := k - s.rd) (by omega)
      simp [IB.came, hv, h1]
  · simp [h1]
theorem take_rdy {L : List (Option Nat)} {n : Nat} (hn : n ≤ rdy L) : rdy (L.drop n) = rdy L - n := by
  apply rdy_is
  · intro j hj
    rw [gt_drop]
    obtain ⟨v, hv⟩ := rdy_lt (L := L) (j := n + j) (by omega)
    rw [hv]
    rfl
  · rw [gt_drop, show n + (rdy L - n) = rdy L by omega]
    exact rdy_end L
theorem IbAt.next {w : World} {b k : Nat} {s : IB} {fp : Nat → Prop} (h : IbAt w b (s.take k) fp) (hk : k < rdy s.L) : IbAt (w.setCell ⟨b, 0, none⟩ (.int .u64 ((s.rd + k + 1 : Nat) : Int))) b (s.take (k + 1)) fp := by
  obtain ⟨c, og, xs, cs, h, rfl⟩ := h
  have hu : Upd (fun j => j = b) w (w.setCell ⟨b, 0, none⟩ (.int .u64 ((s.rd + k + 1 : Nat) : Int))) := Upd.setCell (Upd.refl (fun j => j = b) w) ⟨b, 0, none⟩ (.inl rfl) _
  have e1 : (s.take k).take 1 = s.take (k + 1) := by simp [IB.take, Nat.add_assoc]
  have hr : 1 ≤ rdy (s.take k).L := by
    show 1 ≤ rdy (s.L.drop k)
    rw [take_rdy (by omega)]
    omega
  have hi := h.is.takeN hr
  have ho := IB.take_ok h.ok hr
  rw [e1] at hi ho
  refine ⟨c, og, xs, _, ⟨set_at h.blk 0 _, by simpa using h.size, ?_, ?_, ?_, ?_, ?_, ?_, h.came.keeps hu (fun e => h.ne e) (fun g hg e => h.apart (by rw [hg, e])), hi, ho, h.ne, h.apart⟩, rfl⟩
  · simp [h.size, IB.take, Nat.add_assoc]
  · simp; exact h.c1
  · simp; exact h.c2
  · simp; exact h.c3
  · intro j v hv
    rw [Array.getElem?_setIfInBounds, if_neg (by omega)]
    have := h.ring (j + 1) v (by
      simp only [IB.take] at hv ⊢
      rw [gt_drop] at hv ⊢
      rw [← hv]
      congr 1
      omega)
    rw [← this]
    simp only [IB.take]
    congr 3
    omega
  · simp; exact h.c5
theorem IbAt.byte {w : World} {b k : Nat} {s : IB} {fp : Nat → Prop} (h : IbAt w b (s.take k) fp) {v : Nat} (hv : gt s.L k = some v) : w.cell? ⟨b, 4 + (s.rd + k) % 2048, none⟩ = some (.int .u8 v) := by
  obtain ⟨c, og, xs, cs, h, _⟩ := h
  rw [cell_at h.blk]
  have := h.ring 0 v (by simp only [IB.take]; rw [gt_drop]; exact hv)
  simpa [IB.take] using this
theorem out_snoc {s : IB} {k v : Nat} (h : gt s.L k = some v) : s.out (k + 1) = s.out k ++ [v] := by
  unfold IB.out
  rw [List.take_add_one, bytesOf_get h]
  rfl
theorem IbAt.free0 {w : World} {b : Nat} {s : IB} {fp : Nat → Prop} (h : IbAt w b s fp) : w.frozen? ⟨b, 0, none⟩ = false := by
  obtain ⟨c, og, xs, cs, h, _⟩ := h
  exact free_at h.blk 0
/-- In the middle of Take. -/
structure TakeMid (w wr : World) (b : Nat) (s : IB) (fp : Nat → Prop) (k : Nat) (v : Value) : Prop where
  buf : IbAt wr b (s.take k) fp
  upd : Upd fp w wr
  out : ∃ og, SlG encB 5 wr v og (s.out k) ∧ ∀ g, og = some g → w.heap.size ≤ g

theorem TakeMid.bufOf {w wr W1 : World} {b : Nat} {s : IB} {fp : Nat → Prop} {k : Nat} {v : Value} {o : Obj} {og : Option Nat} (h : TakeMid w wr b s fp k v) (hw : fp b ∧ ∀ j, fp j → j < w.heap.size) (hg : ∀ g, og = some g → w.heap.size ≤ g)
    (hu : Upd (fun j => og = some j) (wr.alloc o).drew W1) : IbAt W1 b (s.take k) fp :=
  (h.buf.below (((Below.refl wr.heap.size wr).alloc (Nat.le_refl _) o).drew)).keeps hu (fun j hj e => by
    have := hw.2 j hj
    have := hg j e
    omega)
theorem TakeMid.kept {w wr W1 : World} {b : Nat} {s : IB} {fp : Nat → Prop} {k : Nat} {v : Value} {o : Obj} {og : Option Nat} {z : Nat} (h : TakeMid w wr b s fp k v) (hw : fp b ∧ ∀ j, fp j → j < w.heap.size) (hg : ∀ g, og = some g → w.heap.size ≤ g)
    (hu : Upd (fun j => og = some j) (wr.alloc o).drew W1) (hz : s.rd + k = z) : W1.cell? ⟨b, 0, none⟩ = some (.int .u64 z) ∧ W1.frozen? ⟨b, 0, none⟩ = false := by
  have hb := h.bufOf hw hg hu
  refine ⟨?_, hb.free0⟩
  rw [hb.cells.1, ← hz]
  rfl
theorem TakeMid.next {w wr W1 : World} {b : Nat} {s : IB} {fp : Nat → Prop} {k x z : Nat} {v v1 : Value} {o : Obj} {og og1 : Option Nat} (h : TakeMid w wr b s fp k v) (hw : fp b ∧ ∀ j, fp j → j < w.heap.size) (hk : k < rdy s.L) (hx : gt s.L k = some x) (hg : ∀ g, og = some g → w.heap.size ≤ g)
    (hs : SlG encB 5 W1 v1 og1 (s.out k ++ [x])) (ho : og1 = og ∨ ∃ g, og1 = some g ∧ (wr.alloc o).drew.heap.size ≤ g) (hu : Upd (fun j => og = some j) (wr.alloc o).drew W1) (hz : s.rd + k = z) :
    TakeMid w (W1.setCell ⟨b, 0, none⟩ (.int .u64 ((z : Int) + 1))) b s fp (k + 1) v1 := by
  have hb := h.bufOf hw hg hu
  have hbl := hw.2 b hw.1
  have e : ((z : Int) + 1) = ((s.rd + k + 1 : Nat) : Int) := by omega
  rw [e]
  have hg1 : ∀ g, og1 = some g → w.heap.size ≤ g := by
    intro g hg'
    rcases ho with rfl | ⟨g2, rfl, h4⟩
    · exact hg g hg'
    · cases hg'
      have := h.upd.size
      have e2 : (wr.alloc o).drew.heap.size = wr.heap.size + 1 := by simp
      omega
  have hu2 : Upd (fun j => j = b) W1 (W1.setCell ⟨b, 0, none⟩ (.int .u64 ((s.rd + k + 1 : Nat) : Int))) := Upd.setCell (Upd.refl (fun j => j = b) W1) ⟨b, 0, none⟩ (.inl rfl) _
  refine ⟨hb.next hk, ?_, og1, ?_, hg1⟩
  · have a1 : Upd fp w (wr.alloc o).drew := (h.upd.alloc o).drew
    have a2 := a1.trans hu (H := fp) (fun _ _ q => q) (fun j hj q => by have := hg j q; omega)
    exact a2.trans hu2 (H := fp) (fun _ _ q => q) (fun j _ q => by rw [q]; exact hw.1)
  · rw [out_snoc hx]
    refine hs.keeps hu2 ?_
    intro g hg' e3
    have := hg1 g hg'
    omega
theorem BufAt.addZero {w w3 : World} {b : Nat} {s : IB} {c : Nat} {og : Option Nat} {xs : List Rg} {cs : Array Value} {fp : Nat → Prop} {z : Nat} (h : BufAt w b s c og xs cs) (hfp : fp = fun j => j = b ∨ j = c ∨ og = some j) (hz : s.rd = z) (hz2 : z ≤ 4611686018427387904)
    (t : Turned w.drew c 2048 og (if 0 < z ∧ z ≤ 4611686018427387904 then addL 2048 xs 0 z else xs) w3) : ∃ fp', IbAt w3 b s fp' ∧ Went fp fp' w w3 := by
  obtain ⟨og', h1, h2, h3⟩ := t
  have hb := heap_lt h.blk
  have hi : CameIs s (if 0 < z ∧ z ≤ 4611686018427387904 then addL 2048 xs 0 z else xs) := by
    by_cases hz0 : 0 < z
    · rw [if_pos ⟨hz0, hz2⟩]
      have h5 := h.is.few h.ok
      have h6 := addN_len xs (0, z)
      have e : addL 2048 xs 0 z = addN xs (0, z) := by
        unfold addL
        rw [addRaw_is hz0 xs h.is.1, trim_all (by omega)]
      have h7 := h.is.take (n := 0) (Nat.zero_le _) (by omega) (by omega)
      rw [Nat.add_zero, hz] at h7
      rw [e]
      exact h7
    · rw [if_neg (by omega)]
      exact h.is
  have hne : ¬ (b = c ∨ og = some b) := by
    rintro (x | x)
    · exact h.ne x.symm
    · exact h.apart x
  refine ⟨fun j => j = b ∨ j = c ∨ og' = some j, ⟨c, og', _, cs, ⟨h3.keeps h.blk hne, h.size, h.c0, h.c1, h.c2, h.c3, h.ring, h.c5, h1, hi, h.ok, h.ne, ?_⟩, rfl⟩, ⟨?_, ?_⟩⟩
  · rcases h2 with rfl | rfl | ⟨g, rfl, h4⟩
    · exact h.apart
    · simp
    · intro e
      cases e
      have : w.drew.heap.size = w.heap.size := rfl
      omega
  · rw [hfp]
    exact ((Upd.refl (fun j => j = b ∨ j = c ∨ og = some j) w).drew).trans h3 (fun _ _ q => q) (fun j _ q => .inr q)
  · intro k hk
    rw [hfp]
    rcases hk with hk | hk | hk
    · exact .inl (.inl hk)
    · exact .inl (.inr (.inl hk))
    · rcases h2 with rfl | rfl | ⟨g, rfl, h4⟩
      · exact .inl (.inr (.inr hk))
      · cases hk
      · cases hk
        exact .inr h4
theorem clip_q (oa : Option Addr) (n cap : Nat) (w : World) (h1 : n ≤ cap) (_h2 : cap ≤ 9223372036854775807) :
    Calls Try.prog 47 #[.slice oa n cap] w fun e w' => e = .returned (.slice oa n n) ∧ ∃ q, w' = w.drewN q := by
  go_enter Try.func47, Try.ntmps47
  go_wp2_with fail
  go_ret
  exact ⟨rfl, 0, rfl⟩
theorem SlG.clip {fp : Nat → Prop} {w : World} {oa : Option Addr} {n cap : Nat} {og : Option Nat} {xs : List Nat} (h : SlG encB 5 w (.slice oa n cap) og xs) (ha : ∀ g, og = some g → ¬ fp g) (hn : xs.length = n) : VwA encB fp w (.slice oa n n) xs := by
  subst hn
  rcases h with ⟨h1, rfl, rfl⟩ | ⟨g, ys, rfl, h1, hr, hl⟩
  · cases h1
    exact ⟨none, 0, rfl, by simp, by omega, .inl rfl⟩
  · cases h1
    refine ⟨_, _, rfl, Nat.le_refl _, by omega, .inr ⟨g, 0, rfl, heap_lt hr, ha g rfl, ?_⟩⟩
    intro j u hj
    rw [Nat.zero_add, hr.cell, flat_append, List.getElem?_append_left (by rw [List.getElem?_eq_some_iff] at hj; exact hj.1)]
    exact hj

set_option maxRecDepth 100000 in
set_option maxHeartbeats 2000000 in
theorem btake_any (b : Nat) (s : IB) (fp : Nat → Prop) (m : Int) (w : World) (h : IbAt w b s fp) (hm : -9223372036854775808 ≤ m) (hm2 : m ≤ 9223372036854775807) {n : Nat} (hn : s.num m = n) :
    Calls Try.prog 26 #[.pointer (some ⟨b, 0, none⟩), .int .i64 m] w
      fun e w' => ∃ v' fp', e = .returned (.tuple #[v', .bool (s.take n).last]) ∧ IbAt w' b (s.take n) fp' ∧ Went fp fp' w w' ∧ VwA encB (fun k => k < w.heap.size ∨ fp' k) w' v' (s.out n) := by
  obtain ⟨i0, hi0, hz0, hz1, hz2'⟩ := info_parts infoB
  have hnr := s.num_le m
  rw [hn] at hnr
  obtain ⟨hb1, hb3, hb4, hb2⟩ := h.bd
  have H := Lib.hid h
  have hrl : rdy s.L ≤ 2048 := Nat.le_trans (rdy_le _) h.ok.len
  clear h
  go_enter Try.func26, Try.ntmps26
  go_upto_region 1 with fail
  go_cut [6] (fun v wx => v = .int .i64 n ∧ Below w.heap.size w wx)
  case first =>
    have hnn : (0 < m ∧ (rdy s.L : Int) < m ∧ n = rdy s.L) ∨ (0 < m ∧ ¬ (rdy s.L : Int) < m ∧ (n : Int) = m) ∨ (¬ 0 < m ∧ n = 0) := by
      unfold IB.num at hn
      omega
    clear hn
    generalize hrr : rdy s.L = rr at *
    have HRR := Lib.hid hrr
    clear hrr
    rcases hnn with ⟨h1, h2, h3⟩ | ⟨h1, h2, h3⟩ | ⟨h1, h3⟩
    · go_wp2_with fail
      refine (bRdy_any b s fp _ (by exact H.out)).mono ?_
      rw [HRR.out]
      rintro e w1 ⟨rfl, hb⟩
      go_wp2_with fail
      go_meet
      case rel => exact ⟨by rw [h3], hb⟩
    · go_wp2_with fail
      refine (bRdy_any b s fp _ (by exact H.out)).mono ?_
      rw [HRR.out]
      rintro e w1 ⟨rfl, hb⟩
      go_wp2_with fail
      go_meet
      case rel => exact ⟨by rw [h3], hb⟩
    · go_wp2_with fail
      refine (bRdy_any b s fp _ (by exact H.out)).mono ?_
      rw [HRR.out]
      rintro e w1 ⟨rfl, hb⟩
      have h4 : ¬ (rr : Int) < 0 := by omega
      go_wp2_with fail
      go_meet
      case rel => exact ⟨by rw [h3]; rfl, hb⟩
  case rest =>
    obtain ⟨rfl, hb⟩ := hcut
    have H1 := Lib.hid (H.out.below hb)
    have HB := Lib.hid hb
    clear hb
    have HW := Lib.hid H.out.lt
    have HM0 := Lib.hid (show TakeMid w wc b s fp 0 (.slice none 0 0) from ⟨H1.out, (Upd.below HB.out).mono (fun j hj x => by omega), none, SlG.nil _, by simp⟩)
    clear H1
    go_wp2_with fail
    go_loopw [7, 14] (fun v i wr => ∃ k : Nat, i = .int .i64 k ∧ k ≤ n ∧ TakeMid w wr b s fp k v) (fun _ i _ => n - (intOf i).toNat)
    case atStart => exact ⟨0, rfl, by omega, HM0.out⟩
    case round =>
      obtain ⟨k, rfl, hk, hmid⟩ := hrel
      have HM := Lib.hid hmid
      clear hmid HM0
      obtain ⟨og, hs, hog⟩ := HM.out.out
      have HS := Lib.hid hs
      have HG := Lib.hid hog
      clear hs hog
      by_cases hlt : k < n
      · obtain ⟨x, hx⟩ := rdy_lt (L := s.L) (j := k) (by omega)
        obtain ⟨z, hz, hz2⟩ : ∃ z : Nat, s.rd + k = z ∧ z ≤ 1099511628288 := ⟨_, rfl, by omega⟩
        obtain ⟨m', hmm, hmm2, hmm3⟩ : ∃ m' : Nat, (z : Int).tmod 2048 = (m' : Int) ∧ z % 2048 = m' ∧ (m' : Int) < 2048 := ⟨z % 2048, by rw [Int.tmod_eq_emod_of_nonneg (by omega)]; omega, rfl, by omega⟩
        have c0 := HM.out.buf.cells.1
        have e0 := HM.out.buf.byte hx
        have f0 := HM.out.buf.free0
        rw [show (s.take k).rd = z from hz] at c0
        rw [hz, hmm2] at e0
        have HX := Lib.hid hx
        have HZ := Lib.hid hz
        have hol : (s.out k).length = k := out_len (by omega)
        have HOL := Lib.hid hol
        clear hx hz hmm2 hol
        go_wp2_with fail
        go_region_law (refine step_pushN encB_len encB_one Try.underlying22 hi0 hz1 hz0 zeroB rfl (.tmp 16) (.tmp 27) rfl (by exact (HS.out.alloc _).drew) [x] (by exact Src.block (alloc_at _ _) rfl) rfl rfl rfl (by simp) (by rw [HOL.out, hz2']; simp; omega) (by rw [HOL.out]; simp; omega) ?_; intro W1 v1 og1 hs1 ho1 hu1)
        all_goals have HN1 := Lib.hid (HM.out.next HW.out (by omega) HX.out HG.out hs1 ho1 hu1 HZ.out)
        all_goals obtain ⟨e1, f1⟩ := HM.out.kept HW.out HG.out hu1 HZ.out
        all_goals clear hs1 ho1 hu1 c0 e0 f0
        all_goals go_wp2
        all_goals go_roundw
        all_goals first
          | (case rel => exact ⟨k + 1, by go_num, by omega, HN1.out⟩)
          | (case measure => simp [intOf]; omega)
      · obtain rfl : k = n := by omega
        obtain ⟨z, hz, hz2⟩ : ∃ z : Nat, (s.take k).rd = z ∧ z ≤ 1099511628288 := ⟨_, rfl, by simp only [IB.take]; omega⟩
        obtain ⟨c, og0, xs, cs, hbuf, hfp⟩ := HM.out.buf
        have hfew := hbuf.is.few hbuf.ok
        have c0 : wr.cell? ⟨b, 0, none⟩ = some (.int .u64 z) := by rw [cell_at hbuf.blk, hbuf.c0, hz]
        have c5 : wr.cell? ⟨b, 2052, none⟩ = some (.pointer (some ⟨c, 0, none⟩)) := by rw [cell_at hbuf.blk, hbuf.c5]
        have HBF := Lib.hid hbuf
        have HFP := Lib.hid hfp
        have HZ := Lib.hid hz
        clear hbuf hfp hz hlt
        go_wp2_with fail
        go_still_tail 8, (by kernel_rfl)
        change wpList _ _ _ _ _ wr.drew
        go_wp2_with fail
        refine (add_any c 2048 og0 xs 0 z _ (by exact HBF.out.came.below (Below.refl _ _).drew) (by omega) (by omega) (by omega)).mono ?_
        rintro e w3 ⟨rfl, ht⟩
        obtain ⟨fp', hb3, hw3⟩ := HBF.out.addZero HFP.out HZ.out (by omega) ht
        have H3 := Lib.hid hb3
        have HWT := Lib.hid hw3
        have HS3 := Lib.hid (HS.out.keeps hw3.upd (fun g hg e => by have := HG.out g hg; have := HW.out.2 g e; omega))
        have HGL := Lib.hid HS.out.lt
        clear ht hb3 hw3 c0 c5 HBF HS hfew
        obtain ⟨oa, cap, rfl, hc1, hc2⟩ := HS3.out.shape
        have hol : (s.out k).length = k := out_len (by omega)
        rw [hol] at hc1 ⊢
        have HOL := Lib.hid hol
        clear hol
        obtain ⟨c0, c1, c2, c3⟩ := H3.out.cells
        rw [HZ.out] at c0
        have HL := Lib.hid (show (s.take k).last = ((s.take k).kn && decide (z = (s.take k).fin)) by rw [IB.last, HZ.out])
        have HF := Lib.hid (show Went fp fp' w w3 ∧ VwA encB (fun j => j < w.heap.size ∨ fp' j) w3 (.slice oa k k) (s.out k) from by
          refine ⟨⟨HM.out.upd.trans HWT.out.upd (fun _ _ q => q) (fun _ _ q => q), fun j hj => ?_⟩, ?_⟩
          · rcases HWT.out.new j hj with q | q
            · exact .inl q
            · have := HM.out.upd.size
              right
              omega
          · have h9 := HS3.out
            rw [HOL.out] at h9
            refine h9.clip ?_ HOL.out
            intro g hg q
            have q1 := HG.out g hg
            have q2 := HGL.out g hg
            rcases q with q | q
            · omega
            · rcases HWT.out.new g q with q | q
              · have := HW.out.2 g q
                omega
              · omega)
        generalize (s.take k).kn = kn at *
        generalize (s.take k).fin = fin at *
        clear c1 HS3 HM HWT HZ HFP
        cases kn
        · go_wp2_with fail
          go_quiet ((go_at_call 47; exact Calls.quiet_of (clip_q oa k cap _ hc1 hc2)))
          go_wp2_with fail
          go_ret2
          exact ⟨_, fp', by rw [HL.out]; rfl, H3.out.drewN _, HF.out.1.drewN _, HF.out.2.upd ((Upd.refl (fun _ => False) _).drewN _) (fun _ q => q.elim)⟩
        · go_wp2_with fail
          go_quiet ((go_at_call 47; exact Calls.quiet_of (clip_q oa k cap _ hc1 hc2)))
          go_wp2_with fail
          go_ret2
          exact ⟨_, fp', by rw [HL.out, Bool.true_and, ← eqN]; rfl, H3.out.drewN _, HF.out.1.drewN _, HF.out.2.upd ((Upd.refl (fun _ => False) _).drewN _) (fun _ q => q.elim)⟩
end Go.Proofs.Ytebiebcpdjipjaa

/- DERIVED. Walk of narthexkeep's Cut. -/
namespace Go.Proofs.Ytebiebcpdjipjaa
open Go.RowKit
set_option maxHeartbeats 400000 in
theorem kcut_q (oa : Option Addr) (len cap n : Nat) (w : World) (h1 : len ≤ cap) (_h2 : cap ≤ 9223372036854775807) (h3 : n ≤ 9223372036854775807) :
    Calls Try.prog 8 #[.slice oa len cap, .int .i64 n] w fun e w' => e = .returned (.slice oa (min len n) cap) ∧ w' = w := by
  by_cases h : n < len
  · go_enter Try.func8, Try.ntmps8
    go_wp2_with fail
    go_ret
    exact ⟨by rw [Nat.min_eq_right (by omega)]; rfl, rfl⟩
  · go_enter Try.func8, Try.ntmps8
    go_wp2_with fail
    go_ret
    exact ⟨by rw [Nat.min_eq_left (by omega)]; rfl, rfl⟩
end Go.Proofs.Ytebiebcpdjipjaa

/- DERIVED. Frames as values; the receiver: plain, in memory. -/
namespace Go.Proofs.Ytebiebcpdjipjaa
open Go.RowKit

structure Fr where
  kd : Int
  sid : Nat
  off : Nat
  vd : Value
  fin : Bool
  lim : Nat
  code : Nat
  fnl : Nat
  seq : Nat
  dly : Nat
  vr : Value
  c0 : Nat
  c1 : Nat
  c2 : Nat
  c3 : Nat
  c4 : Nat
  c5 : Nat
  c6 : Nat
  c7 : Nat
def encF (f : Fr) : List Value := [.int .i64 f.kd, .int .u64 f.sid, .int .u64 f.off, f.vd, .bool f.fin, .int .u64 f.lim, .int .u64 f.code, .int .u64 f.fnl, .int .u64 f.seq, .int .u64 f.dly, f.vr,
  .int .u8 f.c0, .int .u8 f.c1, .int .u8 f.c2, .int .u8 f.c3, .int .u8 f.c4, .int .u8 f.c5, .int .u8 f.c6, .int .u8 f.c7]
theorem encF_len (f : Fr) : (encF f).length = 19 := rfl
structure FrOk (f : Fr) : Prop where
  kd : -9223372036854775808 ≤ f.kd ∧ f.kd ≤ 9223372036854775807
  sid : f.sid < 18446744073709551616
  off : f.off < 18446744073709551616
  lim : f.lim < 18446744073709551616
  code : f.code < 18446744073709551616
  fnl : f.fnl < 18446744073709551616
/-- A Stream's Stop frame, or the zero one. -/
def stopF (id : Nat) : Option Nat → Fr
  | none => ⟨0, 0, 0, .slice none 0 0, false, 0, 0, 0, 0, 0, .slice none 0 0, 0, 0, 0, 0, 0, 0, 0, 0⟩
  | some c => ⟨5, id, 0, .slice none 0 0, false, 0, c, 0, 0, 0, .slice none 0 0, 0, 0, 0, 0, 0, 0, 0, 0⟩
structure RS where
  id : Nat
  win : Nat
  st : Nat
  lim : Nat
  ib : IB
  code : Nat
  fnl : Nat
  sf : Option Nat
  sd : Bool
  so : Bool
  ag : Bool
def RS.new (id win : Nat) : RS := ⟨id, min win 2048, 1, min win 2048, IB.zero, 0, 0, none, false, false, false⟩
def RS.high (s : RS) : Nat := if 5 ≤ s.st then s.fnl else s.ib.hi
def RS.taken (s : RS) : Nat := if 5 ≤ s.st then s.fnl else s.ib.rd
def RS.szn (s : RS) : Nat := if 5 ≤ s.st then s.fnl else s.ib.fin
def RS.szd (s : RS) : Bool := if 5 ≤ s.st then true else s.ib.kn
def endOf (f : Fr) (n : Nat) : Nat := if f.kd = 4 then f.fnl else min f.off 4611686018427387903 + n
def lastOf (f : Fr) : Bool := decide (f.kd = 4) || f.fin
def RS.may (s : RS) (f : Fr) (n : Nat) : Nat :=
  if f.sid ≠ s.id ∨ (f.kd ≠ 8 ∧ f.kd ≠ 4) then 1
  else if s.lim < endOf f n then 23
  else if f.kd = 8 ∧ s.st < 5 ∧ 512 < n then 1
  else if (s.szd = true ∧ (s.szn < endOf f n ∨ (lastOf f = true ∧ endOf f n ≠ s.szn))) ∨ (lastOf f = true ∧ endOf f n < s.high) then 30
  else 0
/-- Behind a Stream frame's bytes: where it is. -/
def nextSt (st : Nat) (ib : IB) : Nat :=
  let a := if ib.kn = true ∧ st = 1 then 2 else st
  if a = 2 ∧ ib.whole = true then 3 else a
def RS.onErr (s : RS) (f : Fr) (n : Nat) : Nat :=
  if s.may f n ≠ 0 then s.may f n
  else if 5 ≤ s.st then 0
  else if f.kd = 4 then 0
  else s.ib.err f.off n f.fin
def RS.on (s : RS) (f : Fr) (d : List Nat) : RS :=
  if s.may f d.length ≠ 0 then s
  else if 5 ≤ s.st then s
  else if f.kd = 4 then (if s.st ≤ 2 then { s with st := 5, code := f.code, fnl := f.fnl } else s)
  else if s.ib.err f.off d.length f.fin ≠ 0 then s
  else { s with ib := s.ib.add f.off d f.fin, st := nextSt s.st (s.ib.add f.off d f.fin) }
structure RS.Ok (s : RS) : Prop where
  id : s.id < 18446744073709551616
  win : s.win ≤ 2048
  st : 1 ≤ s.st ∧ s.st ≤ 6
  lim : s.lim ≤ 1099511640000
  code : s.code < 18446744073709551616
  fnl : s.fnl ≤ 1099511640000
def rcells (s : RS) (b : Nat) (f : Fr) : Array Value := #[.int .u64 s.id, .int .u64 s.win, .int .i64 s.st, .int .u64 s.lim, .pointer (some ⟨b, 0, none⟩), .int .u64 s.code, .int .u64 s.fnl,
  .int .i64 f.kd, .int .u64 f.sid, .int .u64 f.off, f.vd, .bool f.fin, .int .u64 f.lim, .int .u64 f.code, .int .u64 f.fnl, .int .u64 f.seq, .int .u64 f.dly, f.vr,
  .int .u8 f.c0, .int .u8 f.c1, .int .u8 f.c2, .int .u8 f.c3, .int .u8 f.c4, .int .u8 f.c5, .int .u8 f.c6, .int .u8 f.c7, .bool s.sd, .bool s.so, .bool s.ag]
structure RAt0 (w : World) (r : Nat) (s : RS) (b : Nat) (fb : Nat → Prop) : Prop where
  blk : w.heap[r]? = some (.cells (rcells s b (stopF s.id s.sf)) 63 (0, 0))
  buf : IbAt w b s.ib fb
  ne : ¬ fb r
  ok : s.Ok
def RAt (w : World) (r : Nat) (s : RS) (fp : Nat → Prop) : Prop := ∃ b fb, RAt0 w r s b fb ∧ fp = fun j => j = r ∨ fb j
theorem RAt.keeps {F fp : Nat → Prop} {w w' : World} {r : Nat} {s : RS} (h : RAt w r s fp) (hu : Upd F w w') (hF : ∀ k, fp k → ¬ F k) : RAt w' r s fp := by
  obtain ⟨b, fb, h, rfl⟩ := h
  exact ⟨b, fb, ⟨hu.keeps h.blk (hF r (.inl rfl)), h.buf.keeps hu (fun k hk => hF k (.inr hk)), h.ne, h.ok⟩, rfl⟩
theorem RAt.lt {fp : Nat → Prop} {w : World} {r : Nat} {s : RS} (h : RAt w r s fp) : fp r ∧ ∀ k, fp k → k < w.heap.size := by
  obtain ⟨b, fb, h, rfl⟩ := h
  refine ⟨.inl rfl, ?_⟩
  rintro k (rfl | hk)
  · exact heap_lt h.blk
  · exact h.buf.lt.2 k hk
theorem RAt.below {fp : Nat → Prop} {w w' : World} {r : Nat} {s : RS} (h : RAt w r s fp) (hb : Below w.heap.size w w') : RAt w' r s fp :=
  h.keeps (Upd.below hb) (fun k hk => by have := h.lt.2 k hk; omega)
theorem RAt.drewN {fp : Nat → Prop} {w : World} {r : Nat} {s : RS} (h : RAt w r s fp) (n : Nat) : RAt (w.drewN n) r s fp := h.below (below_drewN (Below.refl _ _) n)
theorem RAt.ok {fp : Nat → Prop} {w : World} {r : Nat} {s : RS} (h : RAt w r s fp) : s.Ok := by
  obtain ⟨b, fb, h, _⟩ := h
  exact h.ok
theorem RAt.cells {fp : Nat → Prop} {w : World} {r : Nat} {s : RS} (h : RAt w r s fp) : w.cell? ⟨r, 0, none⟩ = some (.int .u64 s.id) ∧ w.cell? ⟨r, 1, none⟩ = some (.int .u64 s.win) ∧ w.cell? ⟨r, 2, none⟩ = some (.int .i64 s.st) ∧ w.cell? ⟨r, 3, none⟩ = some (.int .u64 s.lim) ∧
    w.cell? ⟨r, 5, none⟩ = some (.int .u64 s.code) ∧ w.cell? ⟨r, 6, none⟩ = some (.int .u64 s.fnl) := by
  obtain ⟨b, fb, h, _⟩ := h
  exact ⟨(cell_at h.blk 0).trans rfl, (cell_at h.blk 1).trans rfl, (cell_at h.blk 2).trans rfl, (cell_at h.blk 3).trans rfl, (cell_at h.blk 5).trans rfl, (cell_at h.blk 6).trans rfl⟩
/-- What a call turns: the receiver is as s', its blocks are those of the call's beginning, or new. -/
def RM (w0 w : World) (fp : Nat → Prop) (r : Nat) (s : RS) : Prop := ∃ fp', RAt w r s fp' ∧ Went fp fp' w0 w
theorem RM.refl {w : World} {fp : Nat → Prop} {r : Nat} {s : RS} (h : RAt w r s fp) : RM w w fp r s := ⟨fp, h, Went.refl _ _⟩
theorem RM.later {w0 w w' : World} {fp : Nat → Prop} {r : Nat} {s : RS} (h : RM w0 w fp r s) (hb : Below w.heap.size w w') : RM w0 w' fp r s := by
  obtain ⟨fp', h1, h2⟩ := h
  exact ⟨fp', h1.below hb, h2.later hb⟩
/-- All of new blocks, from a beginning on. -/
def RMine (W w : World) (r : Nat) (s : RS) : Prop := ∃ fp, RAt w r s fp ∧ (∀ k, fp k → W.heap.size ≤ k) ∧ Below W.heap.size W w
theorem RMine.below {W w : World} {r : Nat} {s : RS} (h : RMine W w r s) : Below W.heap.size W w := by
  obtain ⟨_, _, _, h⟩ := h
  exact h
theorem RMine.later {W w w' : World} {r : Nat} {s : RS} (h : RMine W w r s) (hb : Below w.heap.size w w') : RMine W w' r s := by
  obtain ⟨fp, h1, h2, h3⟩ := h
  exact ⟨fp, h1.below hb, h2, below_call h3 h3.size hb⟩
theorem RMine.drewN {W w : World} {r : Nat} {s : RS} (h : RMine W w r s) (n : Nat) : RMine W (w.drewN n) r s := h.later (below_drewN (Below.refl _ _) n)
theorem rm_mine {W w w' : World} {r : Nat} {s' : RS} {fp : Nat → Prop} (hn : ∀ k, fp k → W.heap.size ≤ k) (hb : Below W.heap.size W w) (m : RM w w' fp r s') : RMine W w' r s' := by
  obtain ⟨fp', h1, h2⟩ := m
  have hs := hb.size
  exact ⟨fp', h1, fun k hk => by
    rcases h2.new k hk with q | q
    · exact hn k q
    · omega, Upd.belowOf hb h2.upd (fun k hk q => by have := hn k q; omega)⟩
end Go.Proofs.Ytebiebcpdjipjaa

/- DERIVED. Walks of receiver's New, State, Limit, End, sized, Highest, May. -/
namespace Go.Proofs.Ytebiebcpdjipjaa
open Go.RowKit

set_option maxRecDepth 100000 in
set_option maxHeartbeats 1000000 in
theorem rnew_any (id win : Nat) (w : World) (hid : id < 18446744073709551616) (hw : win < 18446744073709551616) :
    Calls Try.prog 7 #[.int .u64 id, .int .u64 win] w fun e w' => ∃ r, e = .returned (.pointer (some ⟨r, 0, none⟩)) ∧ RMine w w' r (RS.new id win) := by
  obtain ⟨m, hm, hm2⟩ : ∃ m, min win 2048 = m ∧ m ≤ 2048 := ⟨_, rfl, by omega⟩
  have HM := Lib.hid hm
  have HB := Lib.hid (And.intro hid hw)
  go_enter Try.func7, Try.ntmps7
  go_upto_region 1 with fail
  go_cut [1] (fun v wx => v = .int .u64 m ∧ wx = w)
  case first =>
    by_cases h : 2048 < win
    · obtain rfl : m = 2048 := by omega
      clear hm
      go_wp2_with fail
      go_meet
      case rel => exact ⟨rfl, rfl⟩
    · obtain rfl : win = m := by omega
      clear hm HM
      go_wp2_with fail
      go_meet
      case rel => exact ⟨by first | rfl | (congr 1; omega), rfl⟩
  case rest =>
    obtain ⟨rfl, rfl⟩ := hcut
    clear hm
    go_wp2_with fail
    refine (bnew_any _).mono ?_
    rintro e w1 ⟨b, fp, rfl, hi, hn, hb⟩
    have HI := Lib.hid (And.intro hi (And.intro hn hb))
    clear hi hn hb
    go_wp2_with fail
    go_ret
    obtain ⟨hi, hn, hb⟩ := HI.out
    have hlt := hi.lt.2
    have ha := (Below.refl w1.heap.size w1)
    refine ⟨w1.heap.size, rfl, _, ⟨b, fp, ⟨?_, hi.below ((Below.refl _ _).alloc (Nat.le_refl _) _), fun q => by have := hlt _ q; omega, ⟨HB.out.1, by show min win 2048 ≤ _; omega, ⟨by show 1 ≤ 1; omega, by show 1 ≤ 6; omega⟩, ?_, by show 0 < _; omega, by show 0 ≤ _; omega⟩⟩, rfl⟩, ?_, hb.alloc hb.size _⟩
    · refine (alloc_at _ _).trans ?_
      simp only [rcells, RS.new, HM.out, stopF, IB.zero]
      rfl
    · show min win 2048 ≤ _
      omega
    · rintro k (rfl | q)
      · exact hb.size
      · exact hn k q
set_option maxHeartbeats 1000000 in
theorem rstate_q (r : Nat) (s : RS) (fp : Nat → Prop) (w : World) (h : RAt w r s fp) : Calls Try.prog 13 #[.pointer (some ⟨r, 0, none⟩)] w fun e w' => e = .returned (.int .i64 s.st) ∧ ∃ n, w' = w.drewN n := by
  obtain ⟨_, _, c, _⟩ := h.cells
  clear h
  go_enter Try.func13, Try.ntmps13
  go_wp2_with fail
  go_ret
  exact ⟨rfl, 0, rfl⟩
set_option maxHeartbeats 1000000 in
theorem rlimit_q (r : Nat) (s : RS) (fp : Nat → Prop) (w : World) (h : RAt w r s fp) : Calls Try.prog 16 #[.pointer (some ⟨r, 0, none⟩)] w fun e w' => e = .returned (.int .u64 s.lim) ∧ ∃ n, w' = w.drewN n := by
  obtain ⟨_, _, _, c, _⟩ := h.cells
  clear h
  go_enter Try.func16, Try.ntmps16
  go_wp2_with fail
  go_ret
  exact ⟨rfl, 0, rfl⟩
theorem RAt.ptr {fp : Nat → Prop} {w : World} {r : Nat} {s : RS} (h : RAt w r s fp) : ∃ b fb, IbAt w b s.ib fb ∧ (∀ j, fb j → fp j) ∧ w.cell? ⟨r, 4, none⟩ = some (.pointer (some ⟨b, 0, none⟩)) := by
  obtain ⟨b, fb, h, rfl⟩ := h
  exact ⟨b, fb, h.buf, fun j hj => .inr hj, (cell_at h.blk 4).trans rfl⟩
set_option maxHeartbeats 1000000 in
theorem rhigh_q (r : Nat) (s : RS) (fp : Nat → Prop) (w : World) (h : RAt w r s fp) : Calls Try.prog 17 #[.pointer (some ⟨r, 0, none⟩)] w fun e w' => e = .returned (.int .u64 s.high) ∧ ∃ n, w' = w.drewN n := by
  obtain ⟨_, _, c2, _, _, c6⟩ := h.cells
  obtain ⟨b, fb, hb, _, c4⟩ := h.ptr
  have HB := Lib.hid hb
  clear h hb
  by_cases h5 : 5 ≤ s.st
  · have e : s.high = s.fnl := if_pos h5
    rw [e]
    clear e
    generalize s.st = st at *
    go_enter Try.func17, Try.ntmps17
    go_wp2_with fail
    go_ret
    exact ⟨rfl, 0, rfl⟩
  · have e : s.high = s.ib.hi := if_neg h5
    rw [e]
    clear e
    generalize s.st = st at *
    go_enter Try.func17, Try.ntmps17
    go_wp2_with fail
    refine (bhigh_q b s.ib fb _ (by exact HB.out)).mono ?_
    rintro e w1 ⟨rfl, q, rfl⟩
    go_wp2_with fail
    go_ret
    exact ⟨rfl, q, rfl⟩
set_option maxHeartbeats 1000000 in
theorem rtaken_q (r : Nat) (s : RS) (fp : Nat → Prop) (w : World) (h : RAt w r s fp) : Calls Try.prog 18 #[.pointer (some ⟨r, 0, none⟩)] w fun e w' => e = .returned (.int .u64 s.taken) ∧ ∃ n, w' = w.drewN n := by
  obtain ⟨_, _, c2, _, _, c6⟩ := h.cells
  obtain ⟨b, fb, hb, _, c4⟩ := h.ptr
  have HB := Lib.hid hb
  clear h hb
  by_cases h5 : 5 ≤ s.st
  · have e : s.taken = s.fnl := if_pos h5
    rw [e]
    clear e
    generalize s.st = st at *
    go_enter Try.func18, Try.ntmps18
    go_wp2_with fail
    go_ret
    exact ⟨rfl, 0, rfl⟩
  · have e : s.taken = s.ib.rd := if_neg h5
    rw [e]
    clear e
    generalize s.st = st at *
    go_enter Try.func18, Try.ntmps18
    go_wp2_with fail
    refine (bread_q b s.ib fb _ (by exact HB.out)).mono ?_
    rintro e w1 ⟨rfl, q, rfl⟩
    go_wp2_with fail
    go_ret
    exact ⟨rfl, q, rfl⟩
set_option maxHeartbeats 1000000 in
theorem rsized_q (r : Nat) (s : RS) (fp : Nat → Prop) (w : World) (h : RAt w r s fp) : Calls Try.prog 42 #[.pointer (some ⟨r, 0, none⟩)] w fun e w' => e = .returned (.tuple #[.int .u64 s.szn, .bool s.szd]) ∧ ∃ n, w' = w.drewN n := by
  obtain ⟨_, _, c2, _, _, c6⟩ := h.cells
  obtain ⟨b, fb, hb, _, c4⟩ := h.ptr
  have HB := Lib.hid hb
  clear h hb
  by_cases h5 : 5 ≤ s.st
  · have e : s.szn = s.fnl ∧ s.szd = true := ⟨if_pos h5, if_pos h5⟩
    rw [e.1, e.2]
    clear e
    generalize s.st = st at *
    go_enter Try.func42, Try.ntmps42
    go_wp2_with fail
    go_ret2
    exact ⟨rfl, 0, rfl⟩
  · have e : s.szn = s.ib.fin ∧ s.szd = s.ib.kn := ⟨if_neg h5, if_neg h5⟩
    rw [e.1, e.2]
    clear e
    generalize s.st = st at *
    go_enter Try.func42, Try.ntmps42
    go_wp2_with fail
    refine (bfinal_q b s.ib fb _ (by exact HB.out)).mono ?_
    rintro e w1 ⟨rfl, q, rfl⟩
    go_wp2_with fail
    go_ret2
    exact ⟨rfl, q, rfl⟩
set_option maxRecDepth 100000 in
set_option maxHeartbeats 1000000 in
theorem rend_any (f : Fr) (od : Option Addr) (n cd : Nat) (w : World) (hv : f.vd = .slice od n cd) (hn : n ≤ 9223372036854775807) (ho : f.off < 18446744073709551616) :
    Calls Try.prog 41 #[.agg (encF f).toArray] w fun e w' => e = .returned (.int .u64 (endOf f n)) ∧ Below w.heap.size w w' := by
  simp only [encF, hv]
  by_cases hk : f.kd = 4
  · have e : endOf f n = f.fnl := if_pos hk
    rw [e, hk]
    clear hv hk e
    go_enter Try.func41, Try.ntmps41
    go_wp2_with fail
    go_ret
    exact ⟨rfl, (Below.refl _ _).alloc (Nat.le_refl _) _⟩
  · have e : endOf f n = min f.off 4611686018427387903 + n := if_neg hk
    rw [e]
    obtain ⟨m, hm⟩ : ∃ m, min f.off 4611686018427387903 = m := ⟨_, rfl⟩
    obtain ⟨z, hz, hz2⟩ : ∃ z : Nat, (m : Int) + (n : Int) = (z : Int) ∧ m + n = z := ⟨m + n, by omega, rfl⟩
    rw [hm, hz2]
    have hzb : z ≤ 13835058055282163710 := by omega
    have hwn : IntKind.u64.wrap (n : Int) = n := IntWalk.u64_in _ (by omega)
    have hwz : IntKind.u64.wrap (z : Int) = z := IntWalk.u64_in _ (by omega)
    have hkb : (f.kd == 4) = false := by simpa using hk
    clear hv e hz2
    by_cases hmo : 4611686018427387903 < f.off
    · obtain rfl : m = 4611686018427387903 := by omega
      have hz' : (4611686018427387903 : Int) + (n : Int) = (z : Int) := by omega
      clear hm hz
      go_enter Try.func41, Try.ntmps41
      go_wp2_with fail
      go_ret
      exact ⟨by first | rfl | (congr 2; omega), (Below.refl _ _).alloc (Nat.le_refl _) _⟩
    · have hmm : f.off = m := by omega
      rw [hmm] at hmo ⊢
      clear hm hmm
      have hmi : ¬ (4611686018427387903 : Int) < (m : Int) := by omega
      go_enter Try.func41, Try.ntmps41
      go_wp2_with fail
      go_ret
      exact ⟨by first | rfl | (congr 2; omega), (Below.refl _ _).alloc (Nat.le_refl _) _⟩
theorem sizeF : (Try.prog.info? 35).map (·.size) = some 19 := by kernel_rfl
set_option maxRecDepth 100000 in
set_option maxHeartbeats 4000000 in
theorem rmay_any (r : Nat) (s : RS) (fp : Nat → Prop) (f : Fr) (od : Option Addr) (n cd : Nat) (w : World) (h : RAt w r s fp) (hf : FrOk f) (hv : f.vd = .slice od n cd) (hn : n ≤ 9223372036854775807) :
    Calls Try.prog 22 #[.pointer (some ⟨r, 0, none⟩), .agg (encF f).toArray] w fun e w' => e = .returned (.int .i64 (s.may f n)) ∧ Below w.heap.size w w' := by
  obtain ⟨kd, sid, off, vd, fin, lim, code, fnl, seq, dly, vr, c0, c1, c2, c3, c4, c5, c6, c7⟩ := f
  obtain rfl : vd = .slice od n cd := hv
  obtain ⟨id, hid⟩ : ∃ id, s.id = id := ⟨_, rfl⟩
  have H := Lib.hid h
  have hst := h.ok.st
  obtain ⟨st, hst0⟩ : ∃ st, s.st = st := ⟨_, rfl⟩
  rw [hst0] at hst
  obtain ⟨lm, hlm⟩ : ∃ lm, s.lim = lm := ⟨_, rfl⟩
  have hoff := hf.off
  obtain ⟨hkd1, hkd2⟩ := hf.kd
  simp only at hoff hkd1 hkd2
  have HE := Lib.hid (fun w => rend_any ⟨kd, sid, off, .slice od n cd, fin, lim, code, fnl, seq, dly, vr, c0, c1, c2, c3, c4, c5, c6, c7⟩ od n cd w rfl hn hoff)
  obtain ⟨q, hq⟩ : ∃ q, s.may ⟨kd, sid, off, .slice od n cd, fin, lim, code, fnl, seq, dly, vr, c0, c1, c2, c3, c4, c5, c6, c7⟩ n = q := ⟨_, rfl⟩
  obtain ⟨E, hE⟩ : ∃ E, endOf ⟨kd, sid, off, .slice od n cd, fin, lim, code, fnl, seq, dly, vr, c0, c1, c2, c3, c4, c5, c6, c7⟩ n = E := ⟨_, rfl⟩
  obtain ⟨la, hla⟩ : ∃ la, (decide (kd = 4) || fin) = la := ⟨_, rfl⟩
  have HQ := Lib.hid (show (if sid ≠ id ∨ (kd ≠ 8 ∧ kd ≠ 4) then 1 else if lm < E then 23 else if kd = 8 ∧ st < 5 ∧ 512 < n then 1
      else if (s.szd = true ∧ (s.szn < E ∨ (la = true ∧ E ≠ s.szn))) ∨ (la = true ∧ E < s.high) then 30 else 0) = q from by
    rw [← hq, ← hE, ← hla, ← hid, ← hst0, ← hlm]
    rfl)
  rw [hq]
  simp only [encF, hE] at HE ⊢
  have HLA := Lib.hid hla
  have HC := Lib.hid (show ∀ W, Below w.heap.size w W → W.cell? ⟨r, 0, none⟩ = some (.int .u64 id) ∧ W.cell? ⟨r, 2, none⟩ = some (.int .i64 st) ∧ W.cell? ⟨r, 3, none⟩ = some (.int .u64 lm) from fun W hb => by
    obtain ⟨e0, _, e2, e3, _, _⟩ := (H.out.below hb).cells
    rw [hid] at e0
    rw [hst0] at e2
    rw [hlm] at e3
    exact ⟨e0, e2, e3⟩)
  obtain ⟨szn, hszn⟩ : ∃ x, s.szn = x := ⟨_, rfl⟩
  obtain ⟨szd, hszd⟩ : ∃ x, s.szd = x := ⟨_, rfl⟩
  obtain ⟨hi, hhi⟩ : ∃ x, s.high = x := ⟨_, rfl⟩
  rw [hszn, hszd, hhi] at HQ
  have HSZ := Lib.hid (And.intro hszn (And.intro hszd hhi))
  clear h hf hq hE hla hid hst0 hlm hszn hszd hhi
  go_enter Try.func22, Try.ntmps22
  go_upto_region 0 with fail
  go_cut [3] (fun v wx => ∃ z, v = .pointer (some ⟨z, 0, none⟩) ∧ Below w.heap.size w wx ∧ wx.heap[z]? = some (.cells #[.int .i64 kd, .int .u64 sid, .int .u64 off, .slice od n cd, .bool fin, .int .u64 lim, .int .u64 code, .int .u64 fnl, .int .u64 seq, .int .u64 dly, vr,
    .int .u8 c0, .int .u8 c1, .int .u8 c2, .int .u8 c3, .int .u8 c4, .int .u8 c5, .int .u8 c6, .int .u8 c7] 35 (0, 0)))
  case first =>
    as_aux_lemma =>
      go_wp2_with fail
      go_meet
      case rel => exact ⟨_, rfl, (Below.refl _ _).alloc (Nat.le_refl _) _, alloc_at _ _⟩
  case rest =>
    as_aux_lemma =>
      obtain ⟨z, rfl, hb1, hkz⟩ := hcut
      generalize wc = w1 at *
      have HB1 := Lib.hid hb1
      have HKZ := Lib.hid hkz
      obtain ⟨e0, e2, e3⟩ := HC.out _ hb1
      have z0 := (cell_at hkz 0).trans (by rfl : _ = some (Value.int .i64 kd))
      have z1 := (cell_at hkz 1).trans (by rfl : _ = some (Value.int .u64 sid))
      clear hb1 hkz
      obtain ⟨b1, hb1⟩ : ∃ b1, decide (sid ≠ id ∨ (kd ≠ 8 ∧ kd ≠ 4)) = b1 := ⟨_, rfl⟩
      have HB := Lib.hid hb1
      clear hb1
      go_upto_region 1 with fail
      go_cut [25] (fun v wx => v = .bool b1 ∧ ∃ q, wx = w1.drewN q)
      case first =>
        as_aux_lemma =>
          by_cases h1 : sid = id
          · rcases (by omega : kd = 8 ∨ (kd = 4) ∨ (¬ kd = 8 ∧ ¬ kd = 4)) with h2 | h2 | ⟨h2, h3⟩
            · have e : b1 = false := by rw [← HB.out]; simp [h1, h2]
              subst e h1 h2
              go_wp2_with fail
              go_quiet (fail)
              go_wp2_with fail
              go_meet
              case rel => exact ⟨by first | rfl | simp, _, rfl⟩
            · have e : b1 = false := by rw [← HB.out]; simp [h1, h2]
              subst e h1 h2
              go_wp2_with fail
              go_quiet (fail)
              go_wp2_with fail
              go_meet
              case rel => exact ⟨by first | rfl | simp, _, rfl⟩
            · have e : b1 = true := by rw [← HB.out]; simp [h2, h3]
              subst e h1
              have h2j : (kd != 8) = true := by simp [bne, h2]
              have h2k : (kd != 4) = true := by simp [bne, h3]
              clear h2 h3
              go_wp2_with fail
              go_quiet (fail)
              go_wp2_with fail
              go_meet
              case rel => exact ⟨by first | rfl | simp, _, rfl⟩
          · have e : b1 = true := by rw [← HB.out]; simp [h1]
            subst e
            have h1i : ((sid : Int) == (id : Int)) = false := by rw [eqN]; simp [h1]
            have h1j : ((sid : Int) != (id : Int)) = true := by simp only [bne, h1i]; rfl
            clear h1
            go_wp2_with fail
            go_quiet (fail)
            go_wp2_with fail
            go_meet
            case rel => exact ⟨by first | rfl | simp, _, rfl⟩
      case rest =>
        as_aux_lemma =>
          obtain ⟨rfl, x, rfl⟩ := hcut
          have HB1' := Lib.hid (below_drewN HB1.out x)
          have HKZ' := Lib.hid (show (w1.drewN x).heap[z]? = _ from HKZ.out)
          clear e0 e2 e3 z0 z1 HB1 HKZ
          generalize w1.drewN x = w2 at *
          obtain ⟨e0, e2, e3⟩ := HC.out _ HB1'.out
          cases b1
          · have hne : ¬ (sid ≠ id ∨ (kd ≠ 8 ∧ kd ≠ 4)) := by simpa using HB.out
            have HQ2 := Lib.hid ((if_neg hne).symm.trans HQ.out)
            clear hne HQ HB
            have hkz := HKZ'.out
            go_wp2_with (refine wpList_load_row rfl 35 (.tmp 3) rfl z rfl 35 _ (0, 0) _ (by exact hkz) Try.underlying35 rfl (by rw [sizeF]; rfl) ?_)
            clear hkz
            refine (HE.out _).mono ?_
            rintro e w3 ⟨rfl, hb3⟩
            have HB3 := Lib.hid (below_call HB1'.out HB1'.out.size hb3)
            have HKZ3 := Lib.hid (below_keeps hb3 HKZ'.out (heap_lt HKZ'.out))
            have H3 := Lib.hid (H.out.below HB3.out)
            clear hb3 e0 e2 e3 HKZ' HB1'
            go_wp2_with fail
            refine (rsized_q r s fp _ (by exact H3.out)).mono ?_
            rw [HSZ.out.1, HSZ.out.2.1]
            rintro e w4 ⟨rfl, y, rfl⟩
            have HB4 := Lib.hid (below_drewN HB3.out y)
            have HKZ4 := Lib.hid (show (w3.drewN y).heap[z]? = _ from HKZ3.out)
            have H4 := Lib.hid (H3.out.drewN y)
            clear HB3 HKZ3 H3
            generalize w3.drewN y = w4 at *
            obtain ⟨_, e2, e3⟩ := HC.out _ HB4.out
            have z0 := (cell_at HKZ4.out 0).trans (by rfl : _ = some (Value.int .i64 kd))
            have z3 := (cell_at HKZ4.out 3).trans (by rfl : _ = some (Value.slice od n cd))
            have z4 := (cell_at HKZ4.out 4).trans (by rfl : _ = some (Value.bool fin))
            go_upto_region 5 with fail
            go_cut [8] (fun v wx => v = .bool la ∧ wx = w4)
            case first =>
              as_aux_lemma =>
                by_cases hk : kd = 4
                · have e : la = true := by rw [← HLA.out]; simp [hk]
                  subst e hk
                  go_wp2_with fail
                  go_meet
                  case rel => exact ⟨rfl, rfl⟩
                · have e : la = fin := by rw [← HLA.out]; simp [hk]
                  subst e
                  have hkb : (kd == 4) = false := by simpa using hk
                  clear hk
                  go_wp2_with fail
                  go_meet
                  case rel => exact ⟨rfl, rfl⟩
            case rest =>
              as_aux_lemma =>
                obtain ⟨rfl, rfl⟩ := hcut
                clear z4 HE HKZ4
                generalize wc = w4 at *
                by_cases g1 : lm < E
                · have e : q = 23 := by rw [← HQ2.out, if_pos g1]
                  subst e
                  have g1i : (lm : Int) < (E : Int) := by omega
                  go_wp2_with fail
                  go_ret
                  exact ⟨rfl, HB4.out⟩
                · have g1i : ¬ (lm : Int) < (E : Int) := by omega
                  have HQ3 := Lib.hid ((if_neg g1).symm.trans HQ2.out)
                  clear HQ2
                  obtain ⟨b2, hb2⟩ : ∃ b2, decide (kd = 8 ∧ st < 5 ∧ 512 < n) = b2 := ⟨_, rfl⟩
                  have HB2 := Lib.hid hb2
                  clear hb2
                  go_upto_region 8 with fail
                  go_cut [47] (fun v wx => v = .bool b2 ∧ wx = w4)
                  case first =>
                    as_aux_lemma =>
                      by_cases k1 : kd = 8
                      · subst k1
                        by_cases k2 : st < 5
                        · have k2i : (st : Int) < 5 := by omega
                          by_cases k3 : 512 < n
                          · have e : b2 = true := by rw [← HB2.out]; simp [k2, k3]
                            subst e
                            have k3i : (512 : Int) < (n : Int) := by omega
                            go_wp2_with fail
                            go_meet
                            case rel => exact ⟨by first | rfl | simp, rfl⟩
                          · have e : b2 = false := by rw [← HB2.out]; simp [k3]
                            subst e
                            have k3i : ¬ (512 : Int) < (n : Int) := by omega
                            go_wp2_with fail
                            go_meet
                            case rel => exact ⟨by first | rfl | simp, rfl⟩
                        · have e : b2 = false := by rw [← HB2.out]; simp [k2]
                          subst e
                          have k2i : ¬ (st : Int) < 5 := by omega
                          go_wp2_with fail
                          go_meet
                          case rel => exact ⟨by first | rfl | simp, rfl⟩
                      · have e : b2 = false := by rw [← HB2.out]; simp [k1]
                        subst e
                        have k1b : (kd == 8) = false := by simpa using k1
                        go_wp2_with fail
                        go_meet
                        case rel => exact ⟨by first | rfl | simp, rfl⟩
                  case rest =>
                    as_aux_lemma =>
                      obtain ⟨rfl, rfl⟩ := hcut
                      clear z0 z3 e2 e3
                      generalize wc = w4 at *
                      cases b2
                      · have k0 : ¬ (kd = 8 ∧ st < 5 ∧ 512 < n) := by simpa using HB2.out
                        have HQ4 := Lib.hid ((if_neg k0).symm.trans HQ3.out)
                        clear k0 HQ3 HB2
                        obtain ⟨b3, hb3⟩ : ∃ b3, (szd && (decide (szn < E) || (la && decide (E ≠ szn)))) = b3 := ⟨_, rfl⟩
                        have HB3 := Lib.hid hb3
                        clear hb3
                        go_upto_region 10 with fail
                        go_cut [64] (fun v wx => v = .bool b3 ∧ wx = w4)
                        case first =>
                          as_aux_lemma =>
                            cases szd
                            · have e : b3 = false := by rw [← HB3.out]; rfl
                              subst e
                              go_wp2_with fail
                              go_meet
                              case rel => exact ⟨by first | rfl | simp, rfl⟩
                            · rcases (by omega : szn < E ∨ szn = E ∨ E < szn) with k1 | k1 | k1
                              · have e : b3 = true := by rw [← HB3.out]; simp [k1]
                                subst e
                                have k1i : (szn : Int) < (E : Int) := by omega
                                go_wp2_with fail
                                go_meet
                                case rel => exact ⟨by first | rfl | simp, rfl⟩
                              · subst k1
                                have e : b3 = false := by rw [← HB3.out]; simp
                                subst e
                                cases la
                                all_goals go_wp2_with fail
                                all_goals go_meet
                                all_goals (case rel => exact ⟨by first | rfl | trivial | simp, by first | rfl | trivial⟩)
                              · have k1i : ¬ (szn : Int) < (E : Int) := by omega
                                have k1n : ¬ szn < E := by omega
                                have hne : ¬ E = szn := by omega
                                have k1b : ((E : Int) == (szn : Int)) = false := by rw [eqN]; simp [hne]
                                have k1j : ((E : Int) != (szn : Int)) = true := by simp only [bne, k1b]; rfl
                                have e : b3 = la := by rw [← HB3.out]; simp [k1n, hne]
                                subst e
                                clear hne
                                cases b3
                                all_goals go_wp2_with fail
                                all_goals go_meet
                                all_goals (case rel => exact ⟨by first | rfl | trivial | simp, by first | rfl | trivial⟩)
                        case rest =>
                          as_aux_lemma =>
                            obtain ⟨rfl, rfl⟩ := hcut
                            generalize wc = w4 at *
                            cases b3
                            · have hnb : ¬ (szd = true ∧ (szn < E ∨ (la = true ∧ E ≠ szn))) := by
                                have := HB3.out
                                simpa using this
                              have HQ5 := Lib.hid (show (if la = true ∧ E < hi then 30 else 0) = q from by
                                rw [← HQ4.out]
                                by_cases y : la = true ∧ E < hi
                                · rw [if_pos y, if_pos (.inr y)]
                                · rw [if_neg y, if_neg (fun z => z.elim hnb y)])
                              clear hnb HQ4 HB3
                              cases la
                              · have e : q = 0 := by rw [← HQ5.out]; rfl
                                subst e
                                go_wp2_with fail
                                go_ret
                                exact ⟨rfl, HB4.out⟩
                              · go_wp2_with fail
                                refine (rhigh_q r s fp _ (by exact H4.out)).mono ?_
                                rw [HSZ.out.2.2]
                                rintro e w5 ⟨rfl, y, rfl⟩
                                have HB5 := Lib.hid (below_drewN HB4.out y)
                                generalize w4.drewN y = w5 at *
                                by_cases k1 : E < hi
                                · have e : q = 30 := by rw [← HQ5.out, if_pos (by simpa using k1)]
                                  subst e
                                  have k1i : (E : Int) < (hi : Int) := by omega
                                  go_wp2_with fail
                                  go_ret
                                  exact ⟨rfl, HB5.out⟩
                                · have e : q = 0 := by rw [← HQ5.out, if_neg (fun z => k1 z.2)]
                                  subst e
                                  have k1i : ¬ (E : Int) < (hi : Int) := by omega
                                  go_wp2_with fail
                                  go_ret
                                  exact ⟨rfl, HB5.out⟩
                            · have e : q = 30 := by
                                rw [← HQ4.out]
                                have := HB3.out
                                rw [if_pos (.inl (by simpa using this))]
                              subst e
                              go_wp2_with fail
                              go_ret
                              exact ⟨rfl, HB4.out⟩
                      · have k0 : (kd = 8 ∧ st < 5 ∧ 512 < n) := by simpa using HB2.out
                        have e : q = 1 := by rw [← HQ3.out, if_pos k0]
                        subst e
                        clear k0
                        go_wp2_with fail
                        go_ret
                        exact ⟨rfl, HB4.out⟩
          · have e : q = 1 := by
              rw [← HQ.out, if_pos (by simpa using HB.out)]
            subst e
            go_wp2_with fail
            go_ret
            exact ⟨rfl, HB1'.out⟩
end Go.Proofs.Ytebiebcpdjipjaa

/- DERIVED. frame's kind, put (of the kinds with numbers, and of a Stream). -/
namespace Go.Proofs.Ytebiebcpdjipjaa
open Go.RowKit

def kindN (f : Fr) : Nat := if f.kd = 8 then 10 + (if 0 < f.off then 4 else 0) + (if f.fin then 1 else 0) else f.kd.toNat
theorem or82 : bits .or .u64 8 2 = 10 := by decide
theorem or104 : bits .or .u64 10 4 = 14 := by decide
theorem or101 : bits .or .u64 10 1 = 11 := by decide
theorem or141 : bits .or .u64 14 1 = 15 := by decide
theorem kindN_lt {f : Fr} (h : 0 ≤ f.kd ∧ f.kd ≤ 30) : kindN f ≤ 30 := by
  unfold kindN
  split
  · split <;> split <;> omega
  · omega
set_option maxRecDepth 100000 in
set_option maxHeartbeats 1000000 in
theorem kind_q (f : Fr) (w : World) (hk : 0 ≤ f.kd ∧ f.kd ≤ 30) : Calls Try.prog 83 #[.agg (encF f).toArray] w fun e w' => e = .returned (.int .u64 (kindN f)) ∧ Below w.heap.size w w' := by
  obtain ⟨kd, sid, off, vd, fin, lim, code, fnl, seq, dly, vr, c0, c1, c2, c3, c4, c5, c6, c7⟩ := f
  simp only at hk
  simp only [encF]
  have o1 := or82
  have o2 := or104
  have o3 := or101
  have o4 := or141
  by_cases h8 : kd = 8
  · subst h8
    by_cases ho : off = 0
    · subst ho
      cases fin
      · obtain ⟨k, hk, hk2⟩ : ∃ k, kindN ⟨8, sid, 0, vd, false, lim, code, fnl, seq, dly, vr, c0, c1, c2, c3, c4, c5, c6, c7⟩ = k ∧ k = 10 := ⟨_, rfl, rfl⟩
        rw [hk]
        subst hk2
        go_enter Try.func83, Try.ntmps83
        go_wp2_with fail
        go_ret
        exact ⟨rfl, (Below.refl _ _).alloc (Nat.le_refl _) _⟩
      · obtain ⟨k, hk, hk2⟩ : ∃ k, kindN ⟨8, sid, 0, vd, true, lim, code, fnl, seq, dly, vr, c0, c1, c2, c3, c4, c5, c6, c7⟩ = k ∧ k = 11 := ⟨_, rfl, rfl⟩
        rw [hk]
        subst hk2
        go_enter Try.func83, Try.ntmps83
        go_wp2_with fail
        go_ret
        exact ⟨rfl, (Below.refl _ _).alloc (Nat.le_refl _) _⟩
    · have hop : 0 < off := by omega
      cases fin
      · obtain ⟨k, hk, hk2⟩ : ∃ k, kindN ⟨8, sid, off, vd, false, lim, code, fnl, seq, dly, vr, c0, c1, c2, c3, c4, c5, c6, c7⟩ = k ∧ k = 14 := ⟨_, rfl, by unfold kindN; rw [if_pos rfl, if_pos hop]; rfl⟩
        rw [hk]
        subst hk2
        go_enter Try.func83, Try.ntmps83
        go_wp2_with fail
        go_ret
        exact ⟨rfl, (Below.refl _ _).alloc (Nat.le_refl _) _⟩
      · obtain ⟨k, hk, hk2⟩ : ∃ k, kindN ⟨8, sid, off, vd, true, lim, code, fnl, seq, dly, vr, c0, c1, c2, c3, c4, c5, c6, c7⟩ = k ∧ k = 15 := ⟨_, rfl, by unfold kindN; rw [if_pos rfl, if_pos hop]; rfl⟩
        rw [hk]
        subst hk2
        go_enter Try.func83, Try.ntmps83
        go_wp2_with fail
        go_ret
        exact ⟨rfl, (Below.refl _ _).alloc (Nat.le_refl _) _⟩
  · have hkb : (kd == 8) = false := by simpa using h8
    obtain ⟨k, hk1, hk2⟩ : ∃ k : Nat, kindN ⟨kd, sid, off, vd, fin, lim, code, fnl, seq, dly, vr, c0, c1, c2, c3, c4, c5, c6, c7⟩ = k ∧ kd = (k : Int) := ⟨kd.toNat, by unfold kindN; rw [if_neg h8], by omega⟩
    rw [hk1]
    subst hk2
    have hkw : IntKind.u64.wrap (k : Int) = k := IntWalk.u64_in _ (by omega)
    go_enter Try.func83, Try.ntmps83
    go_wp2_with fail
    go_ret
    exact ⟨rfl, (Below.refl _ _).alloc (Nat.le_refl _) _⟩
end Go.Proofs.Ytebiebcpdjipjaa
