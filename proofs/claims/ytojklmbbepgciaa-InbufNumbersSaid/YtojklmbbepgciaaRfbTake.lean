/- DERIVED. Walk of the document's buffer: Take. -/
import Derived.Test.YtojklmbbepgciaaRfbMid
import Derived.Test.YtojklmbbepgciaaInbTake
import Derived.Test.YtojklmbbepgciaaStr
namespace Go.Proofs.Ytojklmbbepgciaa
open Go.RowKit

theorem infoL : (Try.prog.info? 4).map (fun i => (i.zero, i.size, i.bytes)) = some (some (.bool false), 1, 1) := by kernel_rfl
theorem zeroL : (Value.bool false).cells.toList = encL false := rfl

/-- What region 3 leaves: two new rows. -/
structure TakeCut (W wx : World) (b : Nat) (s : IB) (n : Nat) : Prop where
  ex : ∃ v1 v2 o1 o2, wx.heap[b]? = some (.cells #[.int .u64 s.rd, .int .u64 s.hi, .int .u64 s.fin, .bool s.kn, v1, v2] 41 (0, 0)) ∧
    SlG encB 5 wx v1 o1 ((bytesOf s.L).drop n) ∧ SlG encL 4 wx v2 o2 ((s.L.map Option.isSome).drop n) ∧ (∀ g, o1 = some g → W.heap.size ≤ g) ∧ (∀ g, o2 = some g → W.heap.size ≤ g)
  upd : Upd (fun j => j = b) W wx
theorem take_cut {W w : World} {b n : Nat} {s : IB} {v1 v2 x1 x2 : Value} {o1 o2 : Option Nat} (hb : Below W.heap.size W w)
    (hk : W.heap[b]? = some (.cells #[.int .u64 s.rd, .int .u64 s.hi, .int .u64 s.fin, .bool s.kn, x1, x2] 41 (0, 0)))
    (f1 : SlG encB 5 w v1 o1 ([] ++ (bytesOf s.L).drop n)) (h1 : ∀ g, o1 = some g → W.heap.size ≤ g) (f2 : SlG encL 4 w v2 o2 ([] ++ (s.L.map Option.isSome).drop n)) (h2 : ∀ g, o2 = some g → W.heap.size ≤ g) :
    TakeCut W ((w.setCell ⟨b, 4, none⟩ v1).setCell ⟨b, 5, none⟩ v2) b s n := by
  have hlt := heap_lt hk
  have hk2 := below_keeps hb hk hlt
  have hu : Upd (fun j => j = b) w ((w.setCell ⟨b, 4, none⟩ v1).setCell ⟨b, 5, none⟩ v2) := ((Upd.refl (fun j => j = b) w).setCell ⟨b, 4, none⟩ (.inl rfl) v1).setCell ⟨b, 5, none⟩ (.inl rfl) v2
  refine ⟨⟨v1, v2, o1, o2, ?_, f1.keeps hu (fun g e e2 => by have := h1 g e; omega), f2.keeps hu (fun g e e2 => by have := h2 g e; omega), h1, h2⟩, ?_⟩
  · exact set_at (set_at hk2 4 v1) 5 v2
  · exact ((Upd.below hb).mono (fun j hj x => by omega)).then hu

theorem SlG.vwa {α : Type} {enc : α → List Value} {E : TypeId} {fp : Nat → Prop} {w : World} {v : Value} {og : Option Nat} {xs : List α} (h : SlG enc E w v og xs) (ha : ∀ g, og = some g → ¬ fp g) : VwA enc fp w v xs := by
  rcases h with ⟨rfl, rfl, rfl⟩ | ⟨g, ys, rfl, rfl, hr, hl⟩
  · exact ⟨none, 0, rfl, by simp, by omega, .inl rfl⟩
  · refine ⟨_, _, rfl, by omega, hl, .inr ⟨g, 0, rfl, heap_lt hr, ha g rfl, ?_⟩⟩
    intro j u hj
    rw [Nat.zero_add, hr.cell, flat_append, List.getElem?_append_left (by rw [List.getElem?_eq_some_iff] at hj; exact hj.1)]
    exact hj
theorem rtake_end {w1 Wb wx : World} {b n : Nat} {s : IB} {vx vB vC : Value} {ogx ob oc : Option Nat} (h : RefB w1 b s vB vC ob oc) (hn : n ≤ rdy s.L) (hb : Below w1.heap.size w1 Wb)
    (hs : SlG encB 5 Wb vx ogx ([] ++ (bytesOf s.L).take n)) (ho : ∀ g, ogx = some g → w1.heap.size ≤ g) (hc : TakeCut Wb wx b s n) {z : Nat} (hz : s.rd + n = z) :
    ∃ fp', RbAt (wx.setCell ⟨b, 0, none⟩ (.int .u64 (z : Nat))) b (s.take n) fp' ∧ Went (fun j => j = b ∨ ob = some j ∨ oc = some j) fp' w1 (wx.setCell ⟨b, 0, none⟩ (.int .u64 (z : Nat))) ∧ VwA encB (fun k => k < w1.heap.size ∨ fp' k) (wx.setCell ⟨b, 0, none⟩ (.int .u64 (z : Nat))) vx (s.out n) := by
  obtain ⟨⟨v1, v2, o1, o2, hk, f1, f2, h1, h2⟩, hu⟩ := hc
  have hlt := heap_lt h.blk
  have hsz := hb.size
  have hu2 : Upd (fun j => j = b) wx (wx.setCell ⟨b, 0, none⟩ (.int .u64 (z : Nat))) := (Upd.refl (fun j => j = b) wx).setCell ⟨b, 0, none⟩ (.inl rfl) _
  have hu3 := hu.then hu2
  refine ⟨fun j => j = b ∨ o1 = some j ∨ o2 = some j, ⟨v1, v2, o1, o2, ⟨?_, ?_, ?_, IB.take_ok h.ok hn⟩, rfl⟩, ⟨?_, ?_⟩, ?_⟩
  · have := set_at hk 0 (.int .u64 (z : Nat))
    rw [← hz] at this ⊢
    exact this
  · have := f1.keeps hu2 (fun g e e2 => by have := h1 g e; omega)
    rw [show bytesOf (s.take n).L = (bytesOf s.L).drop n by simp [bytesOf, IB.take, List.map_drop]]
    exact this
  · have := f2.keeps hu2 (fun g e e2 => by have := h2 g e; omega)
    rw [show (s.take n).L.map Option.isSome = (s.L.map Option.isSome).drop n by simp [IB.take, List.map_drop]]
    exact this
  · exact (Upd.below hb).trans hu3 (fun j hj x => by omega) (fun j _ x => .inl x)
  · rintro g (rfl | e | e)
    · exact .inl (.inl rfl)
    · right
      have := h1 g e
      omega
    · right
      have := h2 g e
      omega
  · rw [List.nil_append] at hs
    refine (hs.keeps hu3 (fun g e e2 => by have := ho g e; omega)).vwa ?_
    intro g e q
    have q1 := ho g e
    have q2 := hs.lt g e
    rcases q with q | q | q | q
    · omega
    · omega
    · have := h1 g q
      omega
    · have := h2 g q
      omega

set_option maxRecDepth 100000 in
set_option maxHeartbeats 2000000 in
theorem rtake_any (b : Nat) (s : IB) (fp : Nat → Prop) (m : Int) (w : World) (h : RbAt w b s fp) (hm : -9223372036854775808 ≤ m) (hm2 : m ≤ 9223372036854775807) {n : Nat} (hn : s.num m = n) :
    Calls Try.prog 24 #[.pointer (some ⟨b, 0, none⟩), .int .i64 m] w
      fun e w' => ∃ v' fp', e = .returned (.tuple #[v', .bool (s.take n).last]) ∧ RbAt w' b (s.take n) fp' ∧ Went fp fp' w w' ∧ VwA encB (fun k => k < w.heap.size ∨ fp' k) w' v' (s.out n) := by
  obtain ⟨i0, hi0, hz0, hz1, hz2'⟩ := info_parts infoB
  obtain ⟨i1, hi1, hy0, hy1, hy2'⟩ := info_parts infoL
  have hnr := s.num_le m
  rw [hn] at hnr
  obtain ⟨hb1, hb3, hb4, hb2⟩ := h.bd
  have H := Lib.hid h
  have hrl : rdy s.L ≤ s.L.length := rdy_le _
  have hll : s.L.length ≤ 2048 := h.ok.len
  clear h
  go_enter Try.func24, Try.ntmps24
  go_upto_region 1 with fail
  go_cut [6] (fun v wx => v = .int .i64 n ∧ ∃ q, wx = w.drewN q)
  case first =>
    have hnn : (0 < m ∧ (rdy s.L : Int) < m ∧ n = rdy s.L) ∨ (0 < m ∧ ¬ (rdy s.L : Int) < m ∧ (n : Int) = m) ∨ (¬ 0 < m ∧ n = 0) := by
      unfold IB.num at hn
      omega
    clear hn
    generalize hrr : rdy s.L = rr at *
    have HRR := Lib.hid hrr
    clear hrr
    rcases hnn with ⟨h1, h2, h3⟩ | ⟨h1, h2, h3⟩ | ⟨h1, h3⟩
    · have h4 : ¬ m < 0 := by omega
      go_wp2_with fail
      refine (rready_z b s fp _ (by exact H.out) HRR.out).mono ?_
      rintro e w1 ⟨rfl, q, rfl⟩
      go_wp2_with fail
      go_meet
      case rel => exact ⟨by rw [h3], q, rfl⟩
    · have h4 : ¬ m < 0 := by omega
      go_wp2_with fail
      refine (rready_z b s fp _ (by exact H.out) HRR.out).mono ?_
      rintro e w1 ⟨rfl, q, rfl⟩
      go_wp2_with fail
      go_meet
      case rel => exact ⟨by rw [h3], q, rfl⟩
    · have h5 : ¬ (rr : Int) < 0 := by omega
      rcases (by omega : m = 0 ∨ m < 0) with rfl | h4
      all_goals
        go_wp2_with fail
        refine (rready_z b s fp _ (by exact H.out) HRR.out).mono ?_
        rintro e w1 ⟨rfl, q, rfl⟩
        go_wp2_with fail
        go_meet
        case rel => exact ⟨by rw [h3]; rfl, q, rfl⟩
  case rest =>
    obtain ⟨rfl, q0, rfl⟩ := hcut
    have H1 := Lib.hid (H.out.drewN q0)
    have hw1 : Below w.heap.size w (w.drewN q0) := below_drewN (Below.refl _ _) q0
    have hz1w : (w.drewN q0).heap.size = w.heap.size := rfl
    have HW1 := Lib.hid hw1
    have HZ1 := Lib.hid hz1w
    clear hw1 hz1w
    generalize w.drewN q0 = w1 at *
    obtain ⟨vB, vC, ob, oc, hr, hfp⟩ := H1.out
    obtain ⟨oB, cB, rfl, hB1, hB2⟩ := hr.b.shape
    obtain ⟨oC, cC, rfl, hC1, hC2⟩ := hr.c.shape
    have HR := Lib.hid hr
    have HBV := Lib.hid hr.b.vw
    have HCV := Lib.hid hr.c.vw
    have HBK := Lib.hid hr.blk
    have hlB : (bytesOf s.L).length = s.L.length := by simp [bytesOf]
    rw [hlB] at HBV HBK hB1
    rw [List.length_map] at HCV HBK hC1
    have hnl : n ≤ s.L.length := by omega
    have c4 : w1.cell? ⟨b, 4, none⟩ = some (.slice oB s.L.length cB) := by rw [cell_at HBK.out]; rfl
    have c4a : (w1.alloc (.cells #[] 5)).cell? ⟨b, 4, none⟩ = some (.slice oB s.L.length cB) := by rw [World.cell?_alloc_lt _ _ _ (heap_lt HBK.out)]; exact c4
    have HLB := Lib.hid hlB
    clear hr hlB c4
    generalize hlen : s.L.length = len at *
    have HLEN := Lib.hid hlen
    have HBF := Lib.hid (HBV.out.front encB_len n hnl)
    have HTL := Lib.hid (show ((bytesOf s.L).take n).length = n by rw [List.length_take, HLB.out]; omega)
    clear hlen
    have hnc : n ≤ cB := by omega
    have HDB := Lib.hid (show ((bytesOf s.L).drop n).length = len - n by rw [List.length_drop, HLB.out])
    have HDC := Lib.hid (show ((s.L.map Option.isSome).drop n).length = len - n by rw [List.length_drop, List.length_map, HLEN.out])
    go_wp2_with (refine wpList_pushV encB_len encB_one Try.underlying22 hi0 hz1 hz0 zeroB rfl (.tmp 13) (.tmp 19) rfl (by exact SlG.fresh0) (by exact HBF.out.below ((Below.refl _ _).alloc (Nat.le_refl _) _)) rfl rfl (by rw [HTL.out, hz2']; simp; omega) (by rw [HTL.out]; simp; omega) ?_)
    intro Wb vx ogx hsx hox hux
    have hb12 : Below w1.heap.size w1 Wb := Upd.belowOf ((Below.refl _ _).alloc (Nat.le_refl _) _) hux (fun j hj e => by cases e; omega)
    have HBLK := Lib.hid (below_keeps hb12 HBK.out (heap_lt HBK.out))
    have HS2 := Lib.hid hsx
    have HB12 := Lib.hid hb12
    have HO2 := Lib.hid (og_new (B := w1.heap.size) (fun g e => by cases e; exact Nat.le_refl _) (by simp) hox)
    have HSof := Lib.hid (show ∀ W, Below Wb.heap.size Wb W → W.cell? ⟨b, 4, none⟩ = some (.slice oB len cB) ∧ W.cell? ⟨b, 5, none⟩ = some (.slice oC len cC) from fun W h => by
      have hk := below_keeps h HBLK.out (heap_lt HBLK.out)
      exact ⟨by rw [cell_at hk]; rfl, by rw [cell_at hk]; rfl⟩)
    have HBT := Lib.hid (((HBV.out.below hb12).mono hb12.size).tail encB_len hnl)
    have HCT := Lib.hid (((HCV.out.below hb12).mono hb12.size).tail encL_len hnl)
    clear hsx hox hux hb12 c4a
    go_upto_region 3 with fail
    go_cut [7] (fun v wx => v = vx ∧ TakeCut Wb wx b s n)
    case first =>
      have hb : Below Wb.heap.size Wb Wb.drew := (Below.refl _ _).drew
      refine wp_region_till (S := fun w' => w'.cell? ⟨b, 4, none⟩ = some (.slice oB len cB) ∧ w'.cell? ⟨b, 5, none⟩ = some (.slice oC len cC)) [20, 23] (by kernel_rfl) (by exact HSof.out _ hb) (fun hHeld => ?_)
      refine wpTill_take0 (i := 0) (oi := ⟨some 21, _, _, _, _, _⟩) (v := ?_) rfl (by kernel_rfl) (fun _ _ _ h => h) (Or.inl ⟨by rfl, ?_⟩) (fun _ => hHeld) ?_
      rotate_left
      · intro w hSw
        (try dsimp only at hSw)
        go_simp
        try with_reducible rfl
      try simp only [Act.put, List.setIfInBounds_toArray, List.set_cons_zero, List.set_cons_succ]
      refine wpTill_take0 (i := 1) (oi := ⟨some 22, _, _, _, _, _⟩) (v := ?_) rfl (by kernel_rfl) (fun _ _ _ h => h) (Or.inl ⟨by rfl, ?_⟩) (fun _ => hHeld) ?_
      rotate_left
      · intro w hSw
        (try dsimp only at hSw)
        go_simp
        try with_reducible rfl
      try simp only [Act.put, List.setIfInBounds_toArray, List.set_cons_zero, List.set_cons_succ]
      refine wpTill_take0 (i := 3) (oi := ⟨some 24, _, _, _, _, _⟩) (v := ?_) rfl (by kernel_rfl) (fun _ _ _ h => h) (Or.inl ⟨by rfl, ?_⟩) (fun _ => hHeld) ?_
      rotate_left
      · intro w hSw
        (try dsimp only at hSw)
        go_simp
        try with_reducible rfl
      try simp only [Act.put, List.setIfInBounds_toArray, List.set_cons_zero, List.set_cons_succ]
      refine wpTill_take0 (i := 4) (oi := ⟨some 25, _, _, _, _, _⟩) (v := ?_) rfl (by kernel_rfl) (fun _ _ _ h => h) (Or.inl ⟨by rfl, ?_⟩) (fun _ => hHeld) ?_
      rotate_left
      · intro w hSw
        (try dsimp only at hSw)
        go_simp
        try with_reducible rfl
      try simp only [Act.put, List.setIfInBounds_toArray, List.set_cons_zero, List.set_cons_succ]
      refine wpTill_take0 (i := 5) (oi := ⟨some 26, _, _, _, _, _⟩) (v := ?_) rfl (by kernel_rfl) (fun _ _ _ h => h) (Or.inl ⟨by rfl, ?_⟩) (fun _ => hHeld) ?_
      rotate_left
      · intro w hSw
        (try dsimp only at hSw)
        go_simp
        try with_reducible rfl
      try simp only [Act.put, List.setIfInBounds_toArray, List.set_cons_zero, List.set_cons_succ]
      refine wpTill_take (i := 6) (oi := ⟨some 27, _, _, _, _, _⟩) (v := ?_) rfl (by kernel_rfl) (fun _ _ _ h => h) (Or.inl ⟨by rfl, ?_⟩) (by exact hHeld) ?_
      rotate_left
      · intro w hSw
        (try dsimp only at hSw)
        go_simp
        try with_reducible rfl
      try simp only [Act.put, List.setIfInBounds_toArray, List.set_cons_zero, List.set_cons_succ]
      refine wpTill_take0 (i := 7) (oi := ⟨some 28, _, _, _, _, _⟩) (v := ?_) rfl (by kernel_rfl) (fun _ _ _ h => h) (Or.inl ⟨by rfl, ?_⟩) (fun _ => hHeld) ?_
      rotate_left
      · intro w hSw
        (try dsimp only at hSw)
        go_simp
        try with_reducible rfl
      try simp only [Act.put, List.setIfInBounds_toArray, List.set_cons_zero, List.set_cons_succ]
      refine wpTill_take0 (i := 8) (oi := ⟨some 29, _, _, _, _, _⟩) (v := tailV oB 1 len cB n) rfl (by kernel_rfl) (fun _ _ _ h => h) (Or.inl ⟨by rfl, ?_⟩) (fun _ => hHeld) ?_
      · intro w hSw
        refine Eq.trans (exec_tail Try.underlying22 hi0 rfl rfl rfl hnl hB1) ?_
        rw [hz1]
      try simp only [Act.put, List.setIfInBounds_toArray, List.set_cons_zero, List.set_cons_succ]
      refine wpTill_take0 (i := 11) (oi := ⟨some 32, _, _, _, _, _⟩) (v := ?_) rfl (by kernel_rfl) (fun _ _ _ h => h) (Or.inl ⟨by rfl, ?_⟩) (fun _ => hHeld) ?_
      rotate_left
      · intro w hSw
        (try dsimp only at hSw)
        go_simp
        try with_reducible rfl
      try simp only [Act.put, List.setIfInBounds_toArray, List.set_cons_zero, List.set_cons_succ]
      refine wpTill_take0 (i := 12) (oi := ⟨some 33, _, _, _, _, _⟩) (v := ?_) rfl (by kernel_rfl) (fun _ _ _ h => h) (Or.inl ⟨by rfl, ?_⟩) (fun _ => hHeld) ?_
      rotate_left
      · intro w hSw
        (try dsimp only at hSw)
        go_simp
        try with_reducible rfl
      try simp only [Act.put, List.setIfInBounds_toArray, List.set_cons_zero, List.set_cons_succ]
      refine wpTill_take0 (i := 13) (oi := ⟨some 34, _, _, _, _, _⟩) (v := ?_) rfl (by kernel_rfl) (fun _ _ _ h => h) (Or.inl ⟨by rfl, ?_⟩) (fun _ => hHeld) ?_
      rotate_left
      · intro w hSw
        (try dsimp only at hSw)
        go_simp
        try with_reducible rfl
      try simp only [Act.put, List.setIfInBounds_toArray, List.set_cons_zero, List.set_cons_succ]
      refine wpTill_take (i := 14) (oi := ⟨some 35, _, _, _, _, _⟩) (v := ?_) rfl (by kernel_rfl) (fun _ _ _ h => h) (Or.inl ⟨by rfl, ?_⟩) (by exact hHeld) ?_
      rotate_left
      · intro w hSw
        (try dsimp only at hSw)
        go_simp
        try with_reducible rfl
      try simp only [Act.put, List.setIfInBounds_toArray, List.set_cons_zero, List.set_cons_succ]
      refine wpTill_take0 (i := 15) (oi := ⟨some 36, _, _, _, _, _⟩) (v := ?_) rfl (by kernel_rfl) (fun _ _ _ h => h) (Or.inl ⟨by rfl, ?_⟩) (fun _ => hHeld) ?_
      rotate_left
      · intro w hSw
        (try dsimp only at hSw)
        go_simp
        try with_reducible rfl
      try simp only [Act.put, List.setIfInBounds_toArray, List.set_cons_zero, List.set_cons_succ]
      refine wpTill_take0 (i := 16) (oi := ⟨some 37, _, _, _, _, _⟩) (v := tailV oC 1 len cC n) rfl (by kernel_rfl) (fun _ _ _ h => h) (Or.inl ⟨by rfl, ?_⟩) (fun _ => hHeld) ?_
      · intro w hSw
        refine Eq.trans (exec_tail Try.underlying39 hi1 rfl rfl rfl hnl hC1) ?_
        rw [hy1]
      try simp only [Act.put, List.setIfInBounds_toArray, List.set_cons_zero, List.set_cons_succ]
      refine wpTill_ready (rs := [2, 10]) (by kernel_rfl) (by simp) ?_
      refine AllTill.cons (o := ⟨some 23, _, _, _, _, _⟩) rfl (fun K hK => ?_) ?_
      · refine step_fresh (enc := encB) (E := 5) rfl [] #[] rfl (by decide) (by go_simp) ?_
        intro W2 v2 g2 f2 hg2 hx2
        have hg2 : ∀ j, some g2 = some j → Wb.heap.size ≤ j := fun j e => by cases e; exact Nat.le_trans hb.size hg2
        have hb := below_call hb hb.size hx2
        refine hK.out _ _ (by exact HSof.out _ hb) (fun hHeld => ?_)
        clear hK K
        try simp only [Act.put, List.setIfInBounds_toArray, List.set_cons_zero, List.set_cons_succ]
        refine wpTill_ready (rs := [9, 10]) (by kernel_rfl) (by simp) ?_
        refine AllTill.cons (o := ⟨some 30, _, _, _, _, _⟩) rfl (fun K hK => ?_) ?_
        · refine step_pushV encB_len encB_one Try.underlying22 hi0 hz1 hz0 zeroB rfl (.tmp 23) (.tmp 29) rfl (by exact f2) (by exact HBT.out.below hb) rfl rfl (by rw [HDB.out, hz2']; simp; omega) (by rw [HDB.out]; simp; omega) ?_
          intro W9 v9 o9 f9 ho9 hu9
          have hg9 := og_new hg2 hb.size ho9
          have hb := Upd.onto hb hu9 hb.size (fun j hj e => by have := hg2 j e; omega)
          refine hK.out _ _ (by exact HSof.out _ hb) (fun hHeld => ?_)
          clear hK K
          try simp only [Act.put, List.setIfInBounds_toArray, List.set_cons_zero, List.set_cons_succ]
          refine wpTill_ready (rs := [10]) (by kernel_rfl) (by simp) ?_
          refine AllTill.cons (o := ⟨some 31, _, _, _, _, _⟩) rfl (fun K hK => ?_) AllTill.nil
          refine step_fresh (enc := encL) (E := 4) rfl [] #[] rfl (by decide) (by go_simp) ?_
          intro W10 v10 g10 f10 hg10 hx10
          have hg10 : ∀ j, some g10 = some j → Wb.heap.size ≤ j := fun j e => by cases e; exact Nat.le_trans hb.size hg10
          have f9 := f9.below hx10
          have hb := below_call hb hb.size hx10
          refine hK.out _ _ (by exact HSof.out _ hb) (fun hHeld => ?_)
          clear hK K
          try simp only [Act.put, List.setIfInBounds_toArray, List.set_cons_zero, List.set_cons_succ]
          refine wpTill_ready (rs := [17]) (by kernel_rfl) (by simp) ?_
          refine AllTill.cons (o := ⟨some 38, _, _, _, _, _⟩) rfl (fun K hK => ?_) AllTill.nil
          refine step_pushV encL_len encL_one Try.underlying39 hi1 hy1 hy0 zeroL rfl (.tmp 31) (.tmp 37) rfl (by exact f10) (by exact HCT.out.below hb) rfl rfl (by rw [HDC.out, hy2']; simp; omega) (by rw [HDC.out]; simp; omega) ?_
          intro W17 v17 o17 f17 ho17 hu17
          have hg17 := og_new hg10 hb.size ho17
          have f9 := f9.keeps hu17 (fun j e1 e2 => row_types f9 f10 (by decide) e1 e2)
          have hb := Upd.onto hb hu17 hb.size (fun j hj e => by have := hg10 j e; omega)
          refine hK.out _ _ (by exact HSof.out _ hb) (fun hHeld => ?_)
          clear hK K
          try simp only [Act.put, List.setIfInBounds_toArray, List.set_cons_zero, List.set_cons_succ]
          refine wpTill_take0 (i := 18) (oi := ⟨some 39, _, _, _, _, _⟩) (v := ?_) rfl (by kernel_rfl) (fun _ _ _ h => h) (Or.inl ⟨by rfl, ?_⟩) (fun _ => hHeld) ?_
          rotate_left
          · intro w hSw
            (try dsimp only at hSw)
            go_simp
            try with_reducible rfl
          try simp only [Act.put, List.setIfInBounds_toArray, List.set_cons_zero, List.set_cons_succ]
          refine wpTill_take0 (i := 19) (oi := ⟨some 40, _, _, _, _, _⟩) (v := ?_) rfl (by kernel_rfl) (fun _ _ _ h => h) (Or.inl ⟨by rfl, ?_⟩) (fun _ => hHeld) ?_
          rotate_left
          · intro w hSw
            (try dsimp only at hSw)
            go_simp
            try with_reducible rfl
          try simp only [Act.put, List.setIfInBounds_toArray, List.set_cons_zero, List.set_cons_succ]
          refine wpTill_ready (rs := [20]) (by kernel_rfl) (by simp) ?_
          refine AllTill.consD (o := ⟨none, _, _, _, _, _⟩) rfl (by kernel_rfl) (fun K hK => ?_) AllTill.nil
          obtain ⟨a9, c9, e9, _, _⟩ := f9.shape
          rw [List.nil_append, HDB.out] at e9
          subst e9
          obtain ⟨a17, c17, e17, _, _⟩ := f17.shape
          rw [List.nil_append, HDC.out] at e17
          subst e17
          have hk := below_keeps hb HBLK.out (heap_lt HBLK.out)
          have e4 := cell_at hk 4
          have e5 := cell_at hk 5
          have q4 := free_at hk 4
          have q5 := free_at hk 5
          go_simp
          refine hK.out _ _ ?_
          clear hK K
          try simp only [Act.put, List.setIfInBounds_toArray, List.set_cons_zero, List.set_cons_succ]
          refine wpTill_take0 (i := 21) (oi := ⟨some 41, _, _, _, _, _⟩) (v := ?_) rfl (by kernel_rfl) (fun _ _ _ h => h) (Or.inl ⟨by rfl, ?_⟩) (fun h => Bool.noConfusion (h.symm.trans (show _ = true by kernel_rfl))) ?_
          rotate_left
          · intro w hSw
            (try dsimp only at hSw)
            go_simp
            try with_reducible rfl
          try simp only [Act.put, List.setIfInBounds_toArray, List.set_cons_zero, List.set_cons_succ]
          refine wpTill_take0 (i := 22) (oi := ⟨some 42, _, _, _, _, _⟩) (v := ?_) rfl (by kernel_rfl) (fun _ _ _ h => h) (Or.inl ⟨by rfl, ?_⟩) (fun h => Bool.noConfusion (h.symm.trans (show _ = true by kernel_rfl))) ?_
          rotate_left
          · intro w hSw
            (try dsimp only at hSw)
            go_simp
            try with_reducible rfl
          try simp only [Act.put, List.setIfInBounds_toArray, List.set_cons_zero, List.set_cons_succ]
          refine wpTill_ready (rs := [23]) (by kernel_rfl) (by simp) ?_
          refine AllTill.consD (o := ⟨none, _, _, _, _, _⟩) rfl (by kernel_rfl) (fun K hK => ?_) AllTill.nil
          go_simp
          refine hK.out _ _ ?_
          clear hK K
          try simp only [Act.put, List.setIfInBounds_toArray, List.set_cons_zero, List.set_cons_succ]
          refine wpTill_done (by kernel_rfl) ?_ _
          go_wp2_with fail
          go_meet
          case rel => exact ⟨rfl, take_cut hb HBLK.out f9 hg9 f17 hg17⟩
        refine AllTill.cons (o := ⟨some 31, _, _, _, _, _⟩) rfl (fun K hK => ?_) ?_
        · refine step_fresh (enc := encL) (E := 4) rfl [] #[] rfl (by decide) (by go_simp) ?_
          intro W10 v10 g10 f10 hg10 hx10
          have hg10 : ∀ j, some g10 = some j → Wb.heap.size ≤ j := fun j e => by cases e; exact Nat.le_trans hb.size hg10
          have f2 := f2.below hx10
          have hb := below_call hb hb.size hx10
          refine hK.out _ _ (by exact HSof.out _ hb) (fun hHeld => ?_)
          clear hK K
          try simp only [Act.put, List.setIfInBounds_toArray, List.set_cons_zero, List.set_cons_succ]
          refine wpTill_ready (rs := [9]) (by kernel_rfl) (by simp) ?_
          refine AllTill.cons (o := ⟨some 30, _, _, _, _, _⟩) rfl (fun K hK => ?_) AllTill.nil
          refine step_pushV encB_len encB_one Try.underlying22 hi0 hz1 hz0 zeroB rfl (.tmp 23) (.tmp 29) rfl (by exact f2) (by exact HBT.out.below hb) rfl rfl (by rw [HDB.out, hz2']; simp; omega) (by rw [HDB.out]; simp; omega) ?_
          intro W9 v9 o9 f9 ho9 hu9
          have hg9 := og_new hg2 hb.size ho9
          have f10 := f10.keeps hu9 (fun j e1 e2 => row_types f10 f2 (by decide) e1 e2)
          have hb := Upd.onto hb hu9 hb.size (fun j hj e => by have := hg2 j e; omega)
          refine hK.out _ _ (by exact HSof.out _ hb) (fun hHeld => ?_)
          clear hK K
          try simp only [Act.put, List.setIfInBounds_toArray, List.set_cons_zero, List.set_cons_succ]
          refine wpTill_ready (rs := [17]) (by kernel_rfl) (by simp) ?_
          refine AllTill.cons (o := ⟨some 38, _, _, _, _, _⟩) rfl (fun K hK => ?_) AllTill.nil
          refine step_pushV encL_len encL_one Try.underlying39 hi1 hy1 hy0 zeroL rfl (.tmp 31) (.tmp 37) rfl (by exact f10) (by exact HCT.out.below hb) rfl rfl (by rw [HDC.out, hy2']; simp; omega) (by rw [HDC.out]; simp; omega) ?_
          intro W17 v17 o17 f17 ho17 hu17
          have hg17 := og_new hg10 hb.size ho17
          have f9 := f9.keeps hu17 (fun j e1 e2 => row_types f9 f10 (by decide) e1 e2)
          have hb := Upd.onto hb hu17 hb.size (fun j hj e => by have := hg10 j e; omega)
          refine hK.out _ _ (by exact HSof.out _ hb) (fun hHeld => ?_)
          clear hK K
          try simp only [Act.put, List.setIfInBounds_toArray, List.set_cons_zero, List.set_cons_succ]
          refine wpTill_take0 (i := 18) (oi := ⟨some 39, _, _, _, _, _⟩) (v := ?_) rfl (by kernel_rfl) (fun _ _ _ h => h) (Or.inl ⟨by rfl, ?_⟩) (fun _ => hHeld) ?_
          rotate_left
          · intro w hSw
            (try dsimp only at hSw)
            go_simp
            try with_reducible rfl
          try simp only [Act.put, List.setIfInBounds_toArray, List.set_cons_zero, List.set_cons_succ]
          refine wpTill_take0 (i := 19) (oi := ⟨some 40, _, _, _, _, _⟩) (v := ?_) rfl (by kernel_rfl) (fun _ _ _ h => h) (Or.inl ⟨by rfl, ?_⟩) (fun _ => hHeld) ?_
          rotate_left
          · intro w hSw
            (try dsimp only at hSw)
            go_simp
            try with_reducible rfl
          try simp only [Act.put, List.setIfInBounds_toArray, List.set_cons_zero, List.set_cons_succ]
          refine wpTill_ready (rs := [20]) (by kernel_rfl) (by simp) ?_
          refine AllTill.consD (o := ⟨none, _, _, _, _, _⟩) rfl (by kernel_rfl) (fun K hK => ?_) AllTill.nil
          obtain ⟨a9, c9, e9, _, _⟩ := f9.shape
          rw [List.nil_append, HDB.out] at e9
          subst e9
          obtain ⟨a17, c17, e17, _, _⟩ := f17.shape
          rw [List.nil_append, HDC.out] at e17
          subst e17
          have hk := below_keeps hb HBLK.out (heap_lt HBLK.out)
          have e4 := cell_at hk 4
          have e5 := cell_at hk 5
          have q4 := free_at hk 4
          have q5 := free_at hk 5
          go_simp
          refine hK.out _ _ ?_
          clear hK K
          try simp only [Act.put, List.setIfInBounds_toArray, List.set_cons_zero, List.set_cons_succ]
          refine wpTill_take0 (i := 21) (oi := ⟨some 41, _, _, _, _, _⟩) (v := ?_) rfl (by kernel_rfl) (fun _ _ _ h => h) (Or.inl ⟨by rfl, ?_⟩) (fun h => Bool.noConfusion (h.symm.trans (show _ = true by kernel_rfl))) ?_
          rotate_left
          · intro w hSw
            (try dsimp only at hSw)
            go_simp
            try with_reducible rfl
          try simp only [Act.put, List.setIfInBounds_toArray, List.set_cons_zero, List.set_cons_succ]
          refine wpTill_take0 (i := 22) (oi := ⟨some 42, _, _, _, _, _⟩) (v := ?_) rfl (by kernel_rfl) (fun _ _ _ h => h) (Or.inl ⟨by rfl, ?_⟩) (fun h => Bool.noConfusion (h.symm.trans (show _ = true by kernel_rfl))) ?_
          rotate_left
          · intro w hSw
            (try dsimp only at hSw)
            go_simp
            try with_reducible rfl
          try simp only [Act.put, List.setIfInBounds_toArray, List.set_cons_zero, List.set_cons_succ]
          refine wpTill_ready (rs := [23]) (by kernel_rfl) (by simp) ?_
          refine AllTill.consD (o := ⟨none, _, _, _, _, _⟩) rfl (by kernel_rfl) (fun K hK => ?_) AllTill.nil
          go_simp
          refine hK.out _ _ ?_
          clear hK K
          try simp only [Act.put, List.setIfInBounds_toArray, List.set_cons_zero, List.set_cons_succ]
          refine wpTill_done (by kernel_rfl) ?_ _
          go_wp2_with fail
          go_meet
          case rel => exact ⟨rfl, take_cut hb HBLK.out f9 hg9 f17 hg17⟩
        exact AllTill.nil
      refine AllTill.cons (o := ⟨some 31, _, _, _, _, _⟩) rfl (fun K hK => ?_) ?_
      · refine step_fresh (enc := encL) (E := 4) rfl [] #[] rfl (by decide) (by go_simp) ?_
        intro W10 v10 g10 f10 hg10 hx10
        have hg10 : ∀ j, some g10 = some j → Wb.heap.size ≤ j := fun j e => by cases e; exact Nat.le_trans hb.size hg10
        have hb := below_call hb hb.size hx10
        refine hK.out _ _ (by exact HSof.out _ hb) (fun hHeld => ?_)
        clear hK K
        try simp only [Act.put, List.setIfInBounds_toArray, List.set_cons_zero, List.set_cons_succ]
        refine wpTill_ready (rs := [2]) (by kernel_rfl) (by simp) ?_
        refine AllTill.cons (o := ⟨some 23, _, _, _, _, _⟩) rfl (fun K hK => ?_) AllTill.nil
        refine step_fresh (enc := encB) (E := 5) rfl [] #[] rfl (by decide) (by go_simp) ?_
        intro W2 v2 g2 f2 hg2 hx2
        have hg2 : ∀ j, some g2 = some j → Wb.heap.size ≤ j := fun j e => by cases e; exact Nat.le_trans hb.size hg2
        have f10 := f10.below hx2
        have hb := below_call hb hb.size hx2
        refine hK.out _ _ (by exact HSof.out _ hb) (fun hHeld => ?_)
        clear hK K
        try simp only [Act.put, List.setIfInBounds_toArray, List.set_cons_zero, List.set_cons_succ]
        refine wpTill_ready (rs := [9]) (by kernel_rfl) (by simp) ?_
        refine AllTill.cons (o := ⟨some 30, _, _, _, _, _⟩) rfl (fun K hK => ?_) AllTill.nil
        refine step_pushV encB_len encB_one Try.underlying22 hi0 hz1 hz0 zeroB rfl (.tmp 23) (.tmp 29) rfl (by exact f2) (by exact HBT.out.below hb) rfl rfl (by rw [HDB.out, hz2']; simp; omega) (by rw [HDB.out]; simp; omega) ?_
        intro W9 v9 o9 f9 ho9 hu9
        have hg9 := og_new hg2 hb.size ho9
        have f10 := f10.keeps hu9 (fun j e1 e2 => row_types f10 f2 (by decide) e1 e2)
        have hb := Upd.onto hb hu9 hb.size (fun j hj e => by have := hg2 j e; omega)
        refine hK.out _ _ (by exact HSof.out _ hb) (fun hHeld => ?_)
        clear hK K
        try simp only [Act.put, List.setIfInBounds_toArray, List.set_cons_zero, List.set_cons_succ]
        refine wpTill_ready (rs := [17]) (by kernel_rfl) (by simp) ?_
        refine AllTill.cons (o := ⟨some 38, _, _, _, _, _⟩) rfl (fun K hK => ?_) AllTill.nil
        refine step_pushV encL_len encL_one Try.underlying39 hi1 hy1 hy0 zeroL rfl (.tmp 31) (.tmp 37) rfl (by exact f10) (by exact HCT.out.below hb) rfl rfl (by rw [HDC.out, hy2']; simp; omega) (by rw [HDC.out]; simp; omega) ?_
        intro W17 v17 o17 f17 ho17 hu17
        have hg17 := og_new hg10 hb.size ho17
        have f9 := f9.keeps hu17 (fun j e1 e2 => row_types f9 f10 (by decide) e1 e2)
        have hb := Upd.onto hb hu17 hb.size (fun j hj e => by have := hg10 j e; omega)
        refine hK.out _ _ (by exact HSof.out _ hb) (fun hHeld => ?_)
        clear hK K
        try simp only [Act.put, List.setIfInBounds_toArray, List.set_cons_zero, List.set_cons_succ]
        refine wpTill_take0 (i := 18) (oi := ⟨some 39, _, _, _, _, _⟩) (v := ?_) rfl (by kernel_rfl) (fun _ _ _ h => h) (Or.inl ⟨by rfl, ?_⟩) (fun _ => hHeld) ?_
        rotate_left
        · intro w hSw
          (try dsimp only at hSw)
          go_simp
          try with_reducible rfl
        try simp only [Act.put, List.setIfInBounds_toArray, List.set_cons_zero, List.set_cons_succ]
        refine wpTill_take0 (i := 19) (oi := ⟨some 40, _, _, _, _, _⟩) (v := ?_) rfl (by kernel_rfl) (fun _ _ _ h => h) (Or.inl ⟨by rfl, ?_⟩) (fun _ => hHeld) ?_
        rotate_left
        · intro w hSw
          (try dsimp only at hSw)
          go_simp
          try with_reducible rfl
        try simp only [Act.put, List.setIfInBounds_toArray, List.set_cons_zero, List.set_cons_succ]
        refine wpTill_ready (rs := [20]) (by kernel_rfl) (by simp) ?_
        refine AllTill.consD (o := ⟨none, _, _, _, _, _⟩) rfl (by kernel_rfl) (fun K hK => ?_) AllTill.nil
        obtain ⟨a9, c9, e9, _, _⟩ := f9.shape
        rw [List.nil_append, HDB.out] at e9
        subst e9
        obtain ⟨a17, c17, e17, _, _⟩ := f17.shape
        rw [List.nil_append, HDC.out] at e17
        subst e17
        have hk := below_keeps hb HBLK.out (heap_lt HBLK.out)
        have e4 := cell_at hk 4
        have e5 := cell_at hk 5
        have q4 := free_at hk 4
        have q5 := free_at hk 5
        go_simp
        refine hK.out _ _ ?_
        clear hK K
        try simp only [Act.put, List.setIfInBounds_toArray, List.set_cons_zero, List.set_cons_succ]
        refine wpTill_take0 (i := 21) (oi := ⟨some 41, _, _, _, _, _⟩) (v := ?_) rfl (by kernel_rfl) (fun _ _ _ h => h) (Or.inl ⟨by rfl, ?_⟩) (fun h => Bool.noConfusion (h.symm.trans (show _ = true by kernel_rfl))) ?_
        rotate_left
        · intro w hSw
          (try dsimp only at hSw)
          go_simp
          try with_reducible rfl
        try simp only [Act.put, List.setIfInBounds_toArray, List.set_cons_zero, List.set_cons_succ]
        refine wpTill_take0 (i := 22) (oi := ⟨some 42, _, _, _, _, _⟩) (v := ?_) rfl (by kernel_rfl) (fun _ _ _ h => h) (Or.inl ⟨by rfl, ?_⟩) (fun h => Bool.noConfusion (h.symm.trans (show _ = true by kernel_rfl))) ?_
        rotate_left
        · intro w hSw
          (try dsimp only at hSw)
          go_simp
          try with_reducible rfl
        try simp only [Act.put, List.setIfInBounds_toArray, List.set_cons_zero, List.set_cons_succ]
        refine wpTill_ready (rs := [23]) (by kernel_rfl) (by simp) ?_
        refine AllTill.consD (o := ⟨none, _, _, _, _, _⟩) rfl (by kernel_rfl) (fun K hK => ?_) AllTill.nil
        go_simp
        refine hK.out _ _ ?_
        clear hK K
        try simp only [Act.put, List.setIfInBounds_toArray, List.set_cons_zero, List.set_cons_succ]
        refine wpTill_done (by kernel_rfl) ?_ _
        go_wp2_with fail
        go_meet
        case rel => exact ⟨rfl, take_cut hb HBLK.out f9 hg9 f17 hg17⟩
      exact AllTill.nil
    case rest =>
      obtain ⟨rfl, hcut⟩ := hcut
      obtain ⟨z, hz, hz2⟩ : ∃ z : Nat, s.rd + n = z ∧ z ≤ 1099511628288 := ⟨_, rfl, by omega⟩
      obtain ⟨fp', r1, r2, r3⟩ := rtake_end HR.out hnr HB12.out HS2.out HO2.out hcut hz
      obtain ⟨⟨v1, v2, o1, o2, hk, _⟩, _⟩ := hcut
      have d0 : wc.cell? ⟨b, 0, none⟩ = some (.int .u64 s.rd) := by rw [cell_at hk]; rfl
      have d0f := free_at hk 0
      have hw1 : IntKind.u64.wrap (n : Int) = n := IntWalk.u64_in _ (by omega)
      have hw2 : IntKind.u64.wrap ((s.rd : Int) + n) = z := by rw [IntWalk.u64_in _ (by omega)]; omega
      have d2 : (wc.setCell ⟨b, 0, none⟩ (.int .u64 (z : Nat))).cell? ⟨b, 2, none⟩ = some (.int .u64 s.fin) := by rw [cell_at (set_at hk 0 _)]; rfl
      have d3 : (wc.setCell ⟨b, 0, none⟩ (.int .u64 (z : Nat))).cell? ⟨b, 3, none⟩ = some (.bool s.kn) := by rw [cell_at (set_at hk 0 _)]; rfl
      have d4 : (wc.setCell ⟨b, 0, none⟩ (.int .u64 (z : Nat))).cell? ⟨b, 0, none⟩ = some (.int .u64 z) := by rw [cell_at (set_at hk 0 _)]; rfl
      rw [← hfp] at r2
      have HE := Lib.hid (show RbAt (wc.setCell ⟨b, 0, none⟩ (.int .u64 (z : Nat))) b (s.take n) fp' ∧ Went fp fp' w (wc.setCell ⟨b, 0, none⟩ (.int .u64 (z : Nat))) ∧ VwA encB (fun k => k < w.heap.size ∨ fp' k) (wc.setCell ⟨b, 0, none⟩ (.int .u64 (z : Nat))) u7 (s.out n) from
        ⟨r1, r2.first (HW1.out), by rw [← HZ1.out]; exact r3⟩)
      have HL := Lib.hid (show (s.take n).last = (s.kn && decide (z = s.fin)) by rw [IB.last, ← hz]; rfl)
      clear hz hk r1 r2 r3
      generalize s.kn = kn at *
      generalize s.fin = fin at *
      generalize s.rd = rd at *
      cases kn
      · go_wp2_with fail
        go_quiet (fail)
        go_wp2_with fail
        go_ret2
        exact ⟨_, fp', by rw [HL.out]; rfl, HE.out.1.drewN _, HE.out.2.1.drewN _, HE.out.2.2.upd ((Upd.refl (fun _ => False) _).drewN _) (fun _ q => q.elim)⟩
      · go_wp2_with fail
        go_quiet (fail)
        go_wp2_with fail
        go_ret2
        exact ⟨_, fp', by rw [HL.out, Bool.true_and, ← eqN]; rfl, HE.out.1.drewN _, HE.out.2.1.drewN _, HE.out.2.2.upd ((Upd.refl (fun _ => False) _).drewN _) (fun _ q => q.elim)⟩
end Go.Proofs.Ytojklmbbepgciaa
