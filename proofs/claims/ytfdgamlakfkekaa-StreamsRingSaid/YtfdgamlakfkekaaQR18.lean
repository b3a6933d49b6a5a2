/- DERIVED. Walk of receiver's On. -/
import Derived.StillTailTactics
import Derived.Test.YtfdgamlakfkekaaQR3
import Derived.Test.YtfdgamlakfkekaaQR10
import Derived.Test.YtfdgamlakfkekaaQR14
import Derived.Test.YtfdgamlakfkekaaQR15
import Derived.Test.YtfdgamlakfkekaaQR17
set_option linter.all false
namespace Go.Proofs.Ytfdgamlakfkekaa
open Go.RowKit

theorem VwA.went {α : Type} {enc : α → List Value} {w w2 : World} {v : Value} {xs : List α} {fp fb : Nat → Prop} (h : VwA enc fp w v xs) (hb : Below w.heap.size w w2) (hn : ∀ j, fb j → fp j ∨ w.heap.size ≤ j) : VwA enc fb w2.drew v xs := by
  have h' := (h.below hb).below (Below.refl _ _).drew
  obtain ⟨oa, cap, h1, h2, h3, h4⟩ := h
  obtain ⟨oa', cap', k1, k2, k3, k4⟩ := h'
  subst h1
  cases k1
  refine ⟨_, _, rfl, h2, h3, ?_⟩
  rcases h4 with h4 | ⟨b, off, rfl, h5, h6, h7⟩
  · exact .inl h4
  · rcases k4 with k4 | ⟨b', off', e, k5, k6, k7⟩
    · exact .inl k4
    · cases e
      refine .inr ⟨b, off, rfl, k5, fun q => ?_, k7⟩
      rcases hn b q with x | x
      · exact h6 x
      · omega
theorem RAt0.added {w w3 : World} {r b : Nat} {s : RS} {fb fb' : Nat → Prop} {ib' : IB} (h : RAt0 w r s b fb) (hi : IbAt w3 b ib' fb') (hw : Went fb fb' w w3) : RAt0 w3 r { s with ib := ib' } b fb' :=
  ⟨hw.upd.keeps h.blk h.ne, hi, fun q => by
    rcases hw.new r q with x | x
    · exact h.ne x
    · have := heap_lt h.blk
      omega, ⟨h.ok.id, h.ok.win, h.ok.st, h.ok.lim, h.ok.code, h.ok.fnl⟩⟩
theorem RAt0.setSt {w : World} {r b : Nat} {s : RS} {fb : Nat → Prop} (h : RAt0 w r s b fb) (n : Nat) (h1 : 1 ≤ n) (h2 : n ≤ 6) : RAt0 (w.setCell ⟨r, 2, none⟩ (.int .i64 n)) r { s with st := n } b fb := by
  have hu : Upd (fun j => j = r) w (w.setCell ⟨r, 2, none⟩ (.int .i64 n)) := (Upd.refl (fun j => j = r) w).setCell ⟨r, 2, none⟩ (.inl rfl) _
  exact ⟨(set_at h.blk 2 _).trans rfl, h.buf.keeps hu (fun k hk e => h.ne (by subst e; exact hk)), h.ne, ⟨h.ok.id, h.ok.win, ⟨h1, h2⟩, h.ok.lim, h.ok.code, h.ok.fnl⟩⟩
theorem RAt0.later {w w' : World} {r b : Nat} {s : RS} {fb : Nat → Prop} (h : RAt0 w r s b fb) (hb : Below w.heap.size w w') : RAt0 w' r s b fb :=
  ⟨below_keeps hb h.blk (heap_lt h.blk), h.buf.below hb, h.ne, h.ok⟩
/-- The receiver as it goes: where its buffer lies. -/
def RGo (w0 w : World) (fp : Nat → Prop) (r : Nat) (s : RS) (b : Nat) : Prop := ∃ fb, RAt0 w r s b fb ∧ Went fp (fun j => j = r ∨ fb j) w0 w
theorem RGo.rm {w0 w : World} {fp : Nat → Prop} {r b : Nat} {s : RS} (h : RGo w0 w fp r s b) : RM w0 w fp r s := by
  obtain ⟨fb, h1, h2⟩ := h
  exact ⟨_, ⟨b, fb, h1, rfl⟩, h2⟩
theorem RAt.go {w : World} {r : Nat} {s : RS} {fp : Nat → Prop} (h : RAt w r s fp) : ∃ b, RGo w w fp r s b := by
  obtain ⟨b, fb, h1, rfl⟩ := h
  exact ⟨b, fb, h1, Went.refl _ _⟩
theorem RGo.later {w0 w w' : World} {fp : Nat → Prop} {r b : Nat} {s : RS} (h : RGo w0 w fp r s b) (hb : Below w.heap.size w w') : RGo w0 w' fp r s b := by
  obtain ⟨fb, h1, h2⟩ := h
  exact ⟨fb, h1.later hb, h2.later hb⟩
theorem RGo.added {w0 w w3 : World} {fp : Nat → Prop} {r b : Nat} {s : RS} {ib' : IB} {fb : Nat → Prop} (h1 : RAt0 w r s b fb) (h2 : Went fp (fun j => j = r ∨ fb j) w0 w) (hi : ∃ fb', IbAt w3 b ib' fb' ∧ Went fb fb' w w3) : RGo w0 w3 fp r { s with ib := ib' } b := by
  obtain ⟨fb', hi, hw⟩ := hi
  refine ⟨fb', h1.added hi hw, h2.trans (g := fun j => j = r ∨ fb j) ⟨hw.upd.mono (fun j _ x => .inr x), ?_⟩⟩
  rintro k (q | q)
  · exact .inl (.inl q)
  · exact (hw.new k q).imp .inr id
theorem RGo.setSt {w0 w : World} {fp : Nat → Prop} {r b : Nat} {s : RS} (h : RGo w0 w fp r s b) (n : Nat) (q1 : 1 ≤ n) (q2 : n ≤ 6) : RGo w0 (w.setCell ⟨r, 2, none⟩ (.int .i64 n)) fp r { s with st := n } b := by
  obtain ⟨fb, h1, h2⟩ := h
  refine ⟨fb, h1.setSt n q1 q2, h2.trans ⟨(Upd.refl _ w).setCell ⟨r, 2, none⟩ (.inl (.inl rfl)) _, fun k q => .inl q⟩⟩
theorem RGo.reset {w0 w : World} {fp : Nat → Prop} {r b : Nat} {s : RS} (h : RGo w0 w fp r s b) (c f : Nat) (hc : c < 18446744073709551616) (hf : f ≤ 1099511640000) :
    RGo w0 (((w.setCell ⟨r, 2, none⟩ (.int .i64 5)).setCell ⟨r, 5, none⟩ (.int .u64 c)).setCell ⟨r, 6, none⟩ (.int .u64 f)) fp r { s with st := 5, code := c, fnl := f } b := by
  obtain ⟨fb, h1, h2⟩ := h
  have hu : ∀ F : Nat → Prop, F r → Upd F w (((w.setCell ⟨r, 2, none⟩ (.int .i64 5)).setCell ⟨r, 5, none⟩ (.int .u64 c)).setCell ⟨r, 6, none⟩ (.int .u64 f)) := fun F hF => (((Upd.refl F w).setCell ⟨r, 2, none⟩ (.inl hF) _).setCell ⟨r, 5, none⟩ (.inl hF) _).setCell ⟨r, 6, none⟩ (.inl hF) _
  refine ⟨fb, ⟨(set_at (set_at (set_at h1.blk 2 _) 5 _) 6 _).trans rfl, h1.buf.keeps (hu (fun j => j = r) rfl) (fun k hk e => h1.ne (by subst e; exact hk)), h1.ne, ⟨h1.ok.id, h1.ok.win, ⟨by show 1 ≤ 5; omega, by show 5 ≤ 6; omega⟩, h1.ok.lim, hc, hf⟩⟩, h2.trans ⟨hu _ (.inl rfl), fun k q => .inl q⟩⟩
theorem RGo.cells {w0 w : World} {fp : Nat → Prop} {r b : Nat} {s : RS} (h : RGo w0 w fp r s b) : w.cell? ⟨r, 2, none⟩ = some (.int .i64 s.st) ∧ w.cell? ⟨r, 4, none⟩ = some (.pointer (some ⟨b, 0, none⟩)) ∧ w.cell? ⟨r, 5, none⟩ = some (.int .u64 s.code) ∧ w.cell? ⟨r, 6, none⟩ = some (.int .u64 s.fnl) ∧
    ∀ j, w.frozen? ⟨r, j, none⟩ = false := by
  obtain ⟨fb, h1, _⟩ := h
  exact ⟨(cell_at h1.blk 2).trans rfl, (cell_at h1.blk 4).trans rfl, (cell_at h1.blk 5).trans rfl, (cell_at h1.blk 6).trans rfl, fun j => free_at h1.blk j⟩
set_option maxRecDepth 100000 in
set_option maxHeartbeats 4000000 in
theorem ron_any (r : Nat) (s : RS) (fp : Nat → Prop) (f : Fr) (od : Option Addr) (n cd : Nat) (d : List Nat) (w : World) (h : RAt w r s fp) (hf : FrOk f) (hv : f.vd = .slice od n cd) (hd : VwA encB fp w f.vd d) (hb : Bys d) (hdn : d.length = n) (hn : n ≤ 9223372036854775807) :
    Calls Try.prog 29 #[.pointer (some ⟨r, 0, none⟩), .agg (encF f).toArray] w fun e w' => e = .returned (.int .i64 (s.onErr f n)) ∧ RM w w' fp r (s.on f d) := by
  obtain ⟨b, hgo⟩ := h.go
  have HGO := Lib.hid hgo
  have HM0 := Lib.hid (fun w => fun (hb : Below w.heap.size w w) => rmay_any r s fp f od n cd w)
  obtain ⟨kd, sid, off, vd, fin, lim, code, fnl, seq, dly, vr, c0, c1, c2, c3, c4, c5, c6, c7⟩ := f
  obtain rfl : vd = .slice od n cd := hv
  have H := Lib.hid h
  have HF := Lib.hid hf
  have hst := h.ok.st
  have hoff := hf.off
  have hcode := hf.code
  have hfnl := hf.fnl
  simp only at hoff hcode hfnl hd
  have hlm := h.ok.lim
  obtain ⟨q, hq⟩ : ∃ q, s.onErr ⟨kd, sid, off, .slice od n cd, fin, lim, code, fnl, seq, dly, vr, c0, c1, c2, c3, c4, c5, c6, c7⟩ n = q := ⟨_, rfl⟩
  obtain ⟨s2, hs2⟩ : ∃ s2, s.on ⟨kd, sid, off, .slice od n cd, fin, lim, code, fnl, seq, dly, vr, c0, c1, c2, c3, c4, c5, c6, c7⟩ d = s2 := ⟨_, rfl⟩
  obtain ⟨m, hm⟩ : ∃ m, s.may ⟨kd, sid, off, .slice od n cd, fin, lim, code, fnl, seq, dly, vr, c0, c1, c2, c3, c4, c5, c6, c7⟩ n = m := ⟨_, rfl⟩
  have HMM := Lib.hid (fun w h => rmay_any r s fp ⟨kd, sid, off, .slice od n cd, fin, lim, code, fnl, seq, dly, vr, c0, c1, c2, c3, c4, c5, c6, c7⟩ od n cd w h hf rfl hn)
  have hrs : m = 0 → kd = 4 → fnl ≤ s.lim := by
    intro h1 h2
    rw [h1] at hm
    unfold RS.may at hm
    split at hm
    · cases hm
    · split at hm
      · cases hm
      · rename_i h3
        simp only [endOf, h2, if_true] at h3
        omega
  have HRS := Lib.hid hrs
  have HQ := Lib.hid (show (if m ≠ 0 then m else if 5 ≤ s.st then 0 else if kd = 4 then 0 else s.ib.err off n fin) = q from by rw [← hq, ← hm]; rfl)
  have HS2 := Lib.hid (show (if m ≠ 0 then s else if 5 ≤ s.st then s else if kd = 4 then (if s.st ≤ 2 then { s with st := 5, code := code, fnl := fnl } else s) else if s.ib.err off n fin ≠ 0 then s
      else { s with ib := s.ib.add off d fin, st := nextSt s.st (s.ib.add off d fin) }) = s2 from by rw [← hs2, ← hm, ← hdn]; rfl)
  rw [hq, hs2]
  simp only [encF, hm] at HMM ⊢
  have HD := Lib.hid (And.intro hd (And.intro hb hdn))
  obtain ⟨st, hst0⟩ : ∃ st, s.st = st := ⟨_, rfl⟩
  have HST := Lib.hid hst0
  rw [hst0] at hst HQ HS2
  clear h hf hq hs2 hm hgo hd hb hdn hrs hst0 HM0
  go_enter Try.func29, Try.ntmps29
  go_upto_region 0 with fail
  go_cut [3] (fun v wx => ∃ z, v = .pointer (some ⟨z, 0, none⟩) ∧ w.heap.size ≤ z ∧ Below w.heap.size w wx ∧ wx.heap[z]? = some (.cells #[.int .i64 kd, .int .u64 sid, .int .u64 off, .slice od n cd, .bool fin, .int .u64 lim, .int .u64 code, .int .u64 fnl, .int .u64 seq, .int .u64 dly, vr,
    .int .u8 c0, .int .u8 c1, .int .u8 c2, .int .u8 c3, .int .u8 c4, .int .u8 c5, .int .u8 c6, .int .u8 c7] 39 (0, 0)))
  case first =>
    go_wp2_with fail
    go_meet
    case rel => exact ⟨_, rfl, Nat.le_refl _, (Below.refl _ _).alloc (Nat.le_refl _) _, alloc_at _ _⟩
  case rest =>
    obtain ⟨z, rfl, hz, hb1, hkz⟩ := hcut
    generalize wc = w1 at *
    have HKZ := Lib.hid hkz
    have H1 := Lib.hid (H.out.below hb1)
    have HB1 := Lib.hid hb1
    have HZ := Lib.hid hz
    clear hb1 hz
    go_wp2_with (refine wpList_load_row rfl 39 (.tmp 3) rfl z rfl 39 _ (0, 0) _ (by exact hkz) Try.underlying39 rfl (by rw [sizeF]; rfl) ?_)
    clear hkz
    refine (HMM.out _ (by exact H1.out)).mono ?_
    rintro e w2 ⟨rfl, hb2⟩
    have HKZ2 := Lib.hid (below_keeps hb2 HKZ.out (heap_lt HKZ.out))
    have HB2 := Lib.hid (below_call HB1.out HB1.out.size hb2)
    have HG2 := Lib.hid (HGO.out.later HB2.out)
    clear hb2 HKZ H1 HMM HB1
    by_cases m0 : m = 0
    · subst m0
      have HQ2 := Lib.hid ((if_neg (by simp)).symm.trans HQ.out)
      have HS3 := Lib.hid ((if_neg (by simp)).symm.trans HS2.out)
      obtain ⟨e2, e4, e5, e6, q0⟩ := HG2.out.cells
      rw [HST.out] at e2
      have z0 := (cell_at HKZ2.out 0).trans (by rfl : _ = some (Value.int .i64 kd))
      clear HQ HS2
      by_cases h5 : 5 ≤ st
      · have h5i : (5 : Int) ≤ (st : Int) := by omega
        have eq0 : q = 0 := by rw [← HQ2.out, if_pos h5]
        have es : s2 = s := by rw [← HS3.out, if_pos h5]
        subst eq0 es
        clear e4 e5 e6 q0 z0
        go_wp2_with fail
        go_ret
        exact ⟨rfl, HG2.out.rm⟩
      · have h5i : ¬ (5 : Int) ≤ (st : Int) := by omega
        have HQ3 := Lib.hid ((if_neg h5).symm.trans HQ2.out)
        have HS4 := Lib.hid ((if_neg h5).symm.trans HS3.out)
        clear HQ2 HS3
        by_cases hk4 : kd = 4
        · have eq0 : q = 0 := by rw [← HQ3.out, if_pos hk4]
          have HS5 := Lib.hid ((if_pos hk4).symm.trans HS4.out)
          have hfl := HRS.out (by first | rfl | trivial) hk4
          subst eq0 hk4
          clear HQ3 HS4
          by_cases h2 : st ≤ 2
          · have h2i : (st : Int) ≤ 2 := by omega
            have es : s2 = { s with st := 5, code := code, fnl := fnl } := by rw [← HS5.out, if_pos h2]
            have HM := Lib.hid (show RM w (((w2.drew.setCell ⟨r, 2, none⟩ (.int .i64 5)).setCell ⟨r, 5, none⟩ (.int .u64 code)).setCell ⟨r, 6, none⟩ (.int .u64 fnl)) fp r s2 from by
              rw [es]
              exact ((HG2.out.later (Below.refl _ _).drew).reset code fnl hcode (by omega)).rm)
            have hzr : ¬ z = r := by
              have := HZ.out
              have := H.out.lt.2 r H.out.lt.1
              omega
            have hrz : ¬ r = z := fun e => hzr e.symm
            have HSof := Lib.hid (show ∀ W, Upd (fun j => j = r) w2.drew W → W.cell? ⟨z, 6, none⟩ = some (.int .u64 code) ∧ W.cell? ⟨z, 7, none⟩ = some (.int .u64 fnl) from fun W h => by
              have hk := h.keeps (show w2.drew.heap[z]? = _ from HKZ2.out) hzr
              exact ⟨(cell_at hk 6).trans rfl, (cell_at hk 7).trans rfl⟩)
            have q2 := q0 2
            have q5 := q0 5
            have q6 := q0 6
            clear es q0 e4 HS5
            go_wp2_with fail
            have hu : Upd (fun j => j = r) w2.drew w2.drew := Upd.refl _ _
            refine wp_region_till (S := fun w' => w'.cell? ⟨z, 6, none⟩ = some (.int .u64 code) ∧ w'.cell? ⟨z, 7, none⟩ = some (.int .u64 fnl)) [] (by kernel_rfl) (by exact HSof.out _ hu) (fun hHeld => ?_)
            refine wpTill_take0 (i := 0) (oi := ⟨some 30, _, _, _, _, _⟩) (v := ?_) rfl (by kernel_rfl) (fun _ _ _ h => h) (Or.inl ⟨by rfl, ?_⟩) (fun _ => hHeld) ?_
            rotate_left
            · intro w hSw
              (try dsimp only at hSw)
              go_simp
              try with_reducible rfl
            try simp only [Act.put, List.setIfInBounds_toArray, List.set_cons_zero, List.set_cons_succ]
            refine wpTill_take0 (i := 1) (oi := ⟨some 31, _, _, _, _, _⟩) (v := ?_) rfl (by kernel_rfl) (fun _ _ _ h => h) (Or.inl ⟨by rfl, ?_⟩) (fun _ => hHeld) ?_
            rotate_left
            · intro w hSw
              (try dsimp only at hSw)
              go_simp
              try with_reducible rfl
            try simp only [Act.put, List.setIfInBounds_toArray, List.set_cons_zero, List.set_cons_succ]
            refine wpTill_take0 (i := 2) (oi := ⟨some 32, _, _, _, _, _⟩) (v := ?_) rfl (by kernel_rfl) (fun _ _ _ h => h) (Or.inl ⟨by rfl, ?_⟩) (fun _ => hHeld) ?_
            rotate_left
            · intro w hSw
              (try dsimp only at hSw)
              go_simp
              try with_reducible rfl
            try simp only [Act.put, List.setIfInBounds_toArray, List.set_cons_zero, List.set_cons_succ]
            refine wpTill_take0 (i := 3) (oi := ⟨some 33, _, _, _, _, _⟩) (v := ?_) rfl (by kernel_rfl) (fun _ _ _ h => h) (Or.inl ⟨by rfl, ?_⟩) (fun _ => hHeld) ?_
            rotate_left
            · intro w hSw
              (try dsimp only at hSw)
              go_simp
              try with_reducible rfl
            try simp only [Act.put, List.setIfInBounds_toArray, List.set_cons_zero, List.set_cons_succ]
            refine wpTill_take (i := 4) (oi := ⟨some 34, _, _, _, _, _⟩) (v := ?_) rfl (by kernel_rfl) (fun _ _ _ h => h) (Or.inl ⟨by rfl, ?_⟩) (by exact hHeld) ?_
            rotate_left
            · intro w hSw
              (try dsimp only at hSw)
              go_simp
              try with_reducible rfl
            try simp only [Act.put, List.setIfInBounds_toArray, List.set_cons_zero, List.set_cons_succ]
            refine wpTill_take0 (i := 5) (oi := ⟨some 35, _, _, _, _, _⟩) (v := ?_) rfl (by kernel_rfl) (fun _ _ _ h => h) (Or.inl ⟨by rfl, ?_⟩) (fun _ => hHeld) ?_
            rotate_left
            · intro w hSw
              (try dsimp only at hSw)
              go_simp
              try with_reducible rfl
            try simp only [Act.put, List.setIfInBounds_toArray, List.set_cons_zero, List.set_cons_succ]
            refine wpTill_take (i := 6) (oi := ⟨some 36, _, _, _, _, _⟩) (v := ?_) rfl (by kernel_rfl) (fun _ _ _ h => h) (Or.inl ⟨by rfl, ?_⟩) (by exact hHeld) ?_
            rotate_left
            · intro w hSw
              (try dsimp only at hSw)
              go_simp
              try with_reducible rfl
            try simp only [Act.put, List.setIfInBounds_toArray, List.set_cons_zero, List.set_cons_succ]
            refine wpTill_take0 (i := 7) (oi := ⟨some 37, _, _, _, _, _⟩) (v := ?_) rfl (by kernel_rfl) (fun _ _ _ h => h) (Or.inl ⟨by rfl, ?_⟩) (fun _ => hHeld) ?_
            rotate_left
            · intro w hSw
              (try dsimp only at hSw)
              go_simp
              try with_reducible rfl
            try simp only [Act.put, List.setIfInBounds_toArray, List.set_cons_zero, List.set_cons_succ]
            refine wpTill_take0 (i := 8) (oi := ⟨some 38, _, _, _, _, _⟩) (v := ?_) rfl (by kernel_rfl) (fun _ _ _ h => h) (Or.inl ⟨by rfl, ?_⟩) (fun _ => hHeld) ?_
            rotate_left
            · intro w hSw
              (try dsimp only at hSw)
              go_simp
              try with_reducible rfl
            try simp only [Act.put, List.setIfInBounds_toArray, List.set_cons_zero, List.set_cons_succ]
            refine wpTill_ready (rs := [9]) (by kernel_rfl) (by simp) ?_
            refine AllTill.cons (o := ⟨none, _, _, _, _, _⟩) rfl (fun K hK => ?_) AllTill.nil
            go_simp
            have hu := hu.setCell ⟨r, 2, none⟩ (.inl rfl) (.int .i64 5)
            refine hK.out _ _ (by exact HSof.out _ hu) (fun hHeld => ?_)
            clear hK K
            try simp only [Act.put, List.setIfInBounds_toArray, List.set_cons_zero, List.set_cons_succ]
            refine wpTill_take0 (i := 10) (oi := ⟨some 39, _, _, _, _, _⟩) (v := ?_) rfl (by kernel_rfl) (fun _ _ _ h => h) (Or.inl ⟨by rfl, ?_⟩) (fun _ => hHeld) ?_
            rotate_left
            · intro w hSw
              (try dsimp only at hSw)
              go_simp
              try with_reducible rfl
            try simp only [Act.put, List.setIfInBounds_toArray, List.set_cons_zero, List.set_cons_succ]
            refine wpTill_take0 (i := 11) (oi := ⟨some 40, _, _, _, _, _⟩) (v := ?_) rfl (by kernel_rfl) (fun _ _ _ h => h) (Or.inl ⟨by rfl, ?_⟩) (fun _ => hHeld) ?_
            rotate_left
            · intro w hSw
              (try dsimp only at hSw)
              go_simp
              try with_reducible rfl
            try simp only [Act.put, List.setIfInBounds_toArray, List.set_cons_zero, List.set_cons_succ]
            refine wpTill_ready (rs := [12]) (by kernel_rfl) (by simp) ?_
            refine AllTill.cons (o := ⟨none, _, _, _, _, _⟩) rfl (fun K hK => ?_) AllTill.nil
            go_simp
            have hu := hu.setCell ⟨r, 5, none⟩ (.inl rfl) (.int .u64 code)
            refine hK.out _ _ (by exact HSof.out _ hu) (fun hHeld => ?_)
            clear hK K
            try simp only [Act.put, List.setIfInBounds_toArray, List.set_cons_zero, List.set_cons_succ]
            refine wpTill_take0 (i := 13) (oi := ⟨some 41, _, _, _, _, _⟩) (v := ?_) rfl (by kernel_rfl) (fun _ _ _ h => h) (Or.inl ⟨by rfl, ?_⟩) (fun _ => hHeld) ?_
            rotate_left
            · intro w hSw
              (try dsimp only at hSw)
              go_simp
              try with_reducible rfl
            try simp only [Act.put, List.setIfInBounds_toArray, List.set_cons_zero, List.set_cons_succ]
            refine wpTill_take0 (i := 14) (oi := ⟨some 42, _, _, _, _, _⟩) (v := ?_) rfl (by kernel_rfl) (fun _ _ _ h => h) (Or.inl ⟨by rfl, ?_⟩) (fun _ => hHeld) ?_
            rotate_left
            · intro w hSw
              (try dsimp only at hSw)
              go_simp
              try with_reducible rfl
            try simp only [Act.put, List.setIfInBounds_toArray, List.set_cons_zero, List.set_cons_succ]
            refine wpTill_ready (rs := [15]) (by kernel_rfl) (by simp) ?_
            refine AllTill.cons (o := ⟨none, _, _, _, _, _⟩) rfl (fun K hK => ?_) AllTill.nil
            go_simp
            have hu := hu.setCell ⟨r, 6, none⟩ (.inl rfl) (.int .u64 fnl)
            refine hK.out _ _ (by exact HSof.out _ hu) (fun hHeld => ?_)
            clear hK K
            try simp only [Act.put, List.setIfInBounds_toArray, List.set_cons_zero, List.set_cons_succ]
            refine wpTill_done (by kernel_rfl) ?_ _
            go_wp2_with fail
            go_ret
            exact ⟨rfl, HM.out⟩
          · have h2i : ¬ (st : Int) ≤ 2 := by omega
            have es : s2 = s := by rw [← HS5.out, if_neg h2]
            subst es
            clear e4 e5 e6 q0
            go_wp2_with fail
            go_ret
            exact ⟨rfl, HG2.out.rm⟩
        · have hk4b : (kd == 4) = false := by simpa using hk4
          have HQ4 := Lib.hid ((if_neg hk4).symm.trans HQ3.out)
          have HS5 := Lib.hid ((if_neg hk4).symm.trans HS4.out)
          clear HQ3 HS4 hk4
          have z2 := (cell_at HKZ2.out 2).trans (by rfl : _ = some (Value.int .u64 off))
          have z3 := (cell_at HKZ2.out 3).trans (by rfl : _ = some (Value.slice od n cd))
          have z4 := (cell_at HKZ2.out 4).trans (by rfl : _ = some (Value.bool fin))
          obtain ⟨fb, hr0, hw0⟩ := HG2.out
          have HVD := Lib.hid (show VwA encB fb w2.drew (.slice od n cd) d from HD.out.1.went HB2.out (fun j hj => hw0.new j (.inr hj)))
          have HR0 := Lib.hid hr0
          have HW0 := Lib.hid hw0
          clear hr0 hw0 e5 e6 q0
          go_wp2_with fail
          go_still_tail 10, (by kernel_rfl)
          change wpList _ _ _ _ _ (World.drew _)
          go_wp2_with fail
          refine (badd_any b s.ib fb off _ d fin _ (by exact HR0.out.buf.drew) (by exact HVD.out) HD.out.2.1 hoff).mono ?_
          rw [HD.out.2.2]
          rintro e w3 ⟨rfl, hi3⟩
          have HG3 := Lib.hid (show RGo w w3 fp r { s with ib := s.ib.add off d fin } b from RGo.added (HR0.out.later (Below.refl _ _).drew) (HW0.out.later (Below.refl _ _).drew) hi3)
          clear hi3 HVD HR0 HW0 HG2 e2 e4 z0 z2 z3 z4 HKZ2 HB2
          obtain ⟨er, her⟩ : ∃ er, s.ib.err off n fin = er := ⟨_, rfl⟩
          have HER := Lib.hid her
          rw [her] at HQ4 HS5 ⊢
          clear her
          by_cases e0 : er = 0
          · subst e0
            have eq0 : q = 0 := by rw [← HQ4.out]
            subst eq0
            have HS6 := Lib.hid (show ({ s with ib := s.ib.add off d fin, st := nextSt st (s.ib.add off d fin) } : RS) = s2 from (if_neg (by simp)).symm.trans HS5.out)
            clear HQ4 HS5
            generalize s.ib.add off d fin = ib2 at *
            obtain ⟨c2, c4, _, _, q0⟩ := HG3.out.cells
            replace c2 : w3.cell? ⟨r, 2, none⟩ = some (.int .i64 st) := by rw [← HST.out]; exact c2
            obtain ⟨fb3, h3, hw3⟩ := HG3.out
            have HB3 := Lib.hid h3.buf
            clear h3 hw3 q0
            go_wp2_with fail
            refine (bfinal_q b ib2 fb3 _ (by exact HB3.out)).mono ?_
            rintro e w4 ⟨rfl, x, rfl⟩
            have HG4 := Lib.hid (HG3.out.later (below_drewN (Below.refl _ _) x))
            clear HG3 HB3 c2 c4
            generalize w3.drewN x = w4 at *
            obtain ⟨c2, _, _, _, q0⟩ := HG4.out.cells
            replace c2 : w4.cell? ⟨r, 2, none⟩ = some (.int .i64 st) := by rw [← HST.out]; exact c2
            have q2 := q0 2
            obtain ⟨a, ha⟩ : ∃ a, (if ib2.kn = true ∧ st = 1 then 2 else st) = a := ⟨_, rfl⟩
            have HA := Lib.hid ha
            have ha6 : 1 ≤ a ∧ a ≤ 6 := by rw [← ha]; split <;> omega
            clear ha q0
            obtain ⟨kn, hkn⟩ : ∃ kn, ib2.kn = kn := ⟨_, rfl⟩
            have HKN := Lib.hid hkn
            rw [hkn] at HA ⊢
            clear hkn
            obtain ⟨b1, hb1⟩ : ∃ b1, (kn && decide (st = 1)) = b1 := ⟨_, rfl⟩
            have HB1 := Lib.hid hb1
            have HA2 := Lib.hid (show (if b1 = true then 2 else st) = a from by
              rw [← HA.out, ← hb1]
              simp)
            clear hb1
            go_upto_region 14 with fail
            go_cut [72] (fun v wx => v = .bool b1 ∧ wx = w4)
            case first =>
              cases kn
              · have eb : b1 = false := by rw [← HB1.out]; rfl
                subst eb
                go_wp2_with fail
                go_meet
                case rel => exact ⟨rfl, rfl⟩
              · by_cases h1 : st = 1
                · have eb : b1 = true := by rw [← HB1.out]; simp [h1]
                  subst eb
                  have h1b : ((st : Int) == 1) = true := by simp; omega
                  clear h1
                  go_wp2_with fail
                  go_meet
                  case rel => exact ⟨by first | rfl | simp, by first | rfl | trivial⟩
                · have eb : b1 = false := by rw [← HB1.out]; simp [h1]
                  subst eb
                  have h1b : ((st : Int) == 1) = false := by simp; omega
                  clear h1
                  go_wp2_with fail
                  go_meet
                  case rel => exact ⟨by first | rfl | simp, by first | rfl | trivial⟩
            case rest =>
            obtain ⟨rfl, rfl⟩ := hcut
            generalize wc = w4 at *
            go_upto_if 72 with fail
            go_cut [] (fun wx => RGo w wx fp r { s with ib := ib2, st := a } b)
            case first =>
              cases b1
              · have ea : a = st := HA2.out.symm
                have HGF := Lib.hid (show RGo w w4 fp r { s with ib := ib2, st := a } b from by
                  have := HG4.out
                  rw [show ({ s with ib := ib2, st := a } : RS) = { s with ib := ib2 } from by rw [ea, ← HST.out]]
                  exact this)
                clear ea
                go_wp2_with fail
                go_meet
                case rel => exact HGF.out
              · have ea : a = 2 := HA2.out.symm
                have HGF := Lib.hid (show RGo w (w4.setCell ⟨r, 2, none⟩ (.int .i64 2)) fp r { s with ib := ib2, st := a } b from by
                  rw [ea]
                  exact HG4.out.setSt 2 (by omega) (by omega))
                clear ea
                go_wp2_with fail
                go_meet
                case rel => exact HGF.out
            case rest =>
              have HG5 := Lib.hid (show RGo w wc fp r { s with ib := ib2, st := a } b from hcut)
              clear hcut c2 q2 HG4
              generalize wc = w5 at *
              obtain ⟨c2, c4, _, _, q0⟩ := HG5.out.cells
              replace c2 : w5.cell? ⟨r, 2, none⟩ = some (.int .i64 a) := c2
              obtain ⟨fb5, h5', hw5⟩ := HG5.out
              have HB5 := Lib.hid h5'.buf
              clear h5' hw5 q0
              have HNX := Lib.hid (show nextSt st ib2 = if a = 2 ∧ ib2.whole = true then 3 else a from by
                unfold nextSt
                rw [HKN.out, HA.out])
              by_cases h2 : a = 2
              · subst h2
                go_wp2_with fail
                refine (bwhole_any b ib2 fb5 _ (by exact HB5.out)).mono ?_
                rintro e w6 ⟨rfl, hb6⟩
                have HG6 := Lib.hid (HG5.out.later hb6)
                clear hb6 c2 c4 HG5 HB5
                obtain ⟨c2, _, _, _, q0⟩ := HG6.out.cells
                replace c2 : w6.cell? ⟨r, 2, none⟩ = some (.int .i64 2) := c2
                have q2 := q0 2
                clear q0
                obtain ⟨wh, hwh⟩ : ∃ wh, ib2.whole = wh := ⟨_, rfl⟩
                rw [hwh] at HNX ⊢
                clear hwh
                cases wh
                · have HGF := Lib.hid (show RM w w6 fp r s2 from by
                    rw [← HS6.out, HNX.out]
                    exact HG6.out.rm)
                  go_wp2_with fail
                  go_ret
                  exact ⟨rfl, HGF.out⟩
                · have HGF := Lib.hid (show RM w (w6.setCell ⟨r, 2, none⟩ (.int .i64 3)) fp r s2 from by
                    rw [← HS6.out, HNX.out]
                    exact (HG6.out.setSt 3 (by omega) (by omega)).rm)
                  go_wp2_with fail
                  go_ret
                  exact ⟨rfl, HGF.out⟩
              · have h2b : ((a : Int) == 2) = false := by simp; omega
                have HGF := Lib.hid (show RM w w5 fp r s2 from by
                  rw [← HS6.out, HNX.out, if_neg (fun x => h2 x.1)]
                  exact HG5.out.rm)
                go_wp2_with fail
                go_ret
                exact ⟨rfl, HGF.out⟩
          · have eq0 : q = er := by rw [← HQ4.out]
            have es : s2 = s := by rw [← HS5.out, if_pos e0]
            subst eq0 es
            have e0b : ((q : Int) == 0) = false := by simp; omega
            have HGF := Lib.hid (show RM w w3 fp r s2 from by
              have h9 := HG3.out.rm
              rw [show s2.ib.add off d fin = s2.ib from by unfold IB.add; rw [if_neg (by rw [HD.out.2.2, HER.out]; exact e0)]] at h9
              exact h9)
            go_wp2_with fail
            go_ret
            exact ⟨rfl, HGF.out⟩
    · have eq0 : q = m := by rw [← HQ.out, if_pos m0]
      have es : s2 = s := by rw [← HS2.out, if_pos m0]
      subst eq0 es
      have m0b : ((q : Int) == 0) = false := by simpa using m0
      go_wp2_with fail
      go_ret
      exact ⟨rfl, HG2.out.rm⟩
end Go.Proofs.Ytfdgamlakfkekaa

/- DERIVED. receiver's Next: plain; a struct in a cell as a result. -/
namespace Go.Proofs.Ytfdgamlakfkekaa
open Go.RowKit

def maxF (id lim : Nat) : Fr := ⟨17, id, 0, .slice none 0 0, false, lim, 0, 0, 0, 0, .slice none 0 0, 0, 0, 0, 0, 0, 0, 0, 0⟩
def size5 (f : Fr) : Nat := if right5 f then (bytes5 f).length else 0
def size17 (f : Fr) : Nat := if right17 f then (bytes17 f).length else 0
theorem size17_int (f : Fr) : (if right17 f then ((bytes17 f).length : Int) else 0) = (size17 f : Int) := by unfold size17; split <;> rfl
theorem size5_int (f : Fr) : (if right5 f then ((bytes5 f).length : Int) else 0) = (size5 f : Int) := by unfold size5; split <;> rfl
def RS.tk (s : RS) (n : Nat) : RS := { s with ib := s.ib.take n, st := if (s.ib.take n).last then 4 else s.st }
def RS.top (s : RS) : Nat := s.taken + s.win
def RS.due (s : RS) : Bool := decide (s.lim + max 1 (s.win / 2) ≤ s.top) || s.ag
def RS.nx (s : RS) (room : Int) : RS × Fr × Bool :=
  if s.so = true ∧ s.st ≤ 2 then
    (if room < size5 (stopF s.id s.sf) then (s, zeroF, false) else ({ s with so := false }, stopF s.id s.sf, true))
  else if s.st ≠ 1 ∨ s.due = false ∨ room < size17 (maxF s.id s.top) ∨ size17 (maxF s.id s.top) = 0 then (s, zeroF, false)
  else ({ s with lim := max s.lim s.top, ag := false }, maxF s.id s.top, true)
theorem RAt0.fbs {w : World} {r b : Nat} {s : RS} {fb : Nat → Prop} (h : RAt0 w r s b fb) : ∀ k, fb k → k < w.heap.size := h.buf.lt.2
theorem RAt0.maxed {w w5 : World} {r b : Nat} {s : RS} {fb fp : Nat → Prop} (h : RAt0 w r s b fb) (hfp : fp = fun j => j = r ∨ fb j) (hb : Below w.heap.size w w5) (n : Nat) (hn : n ≤ 1099511640000) (y : Nat) (hy : w.heap.size ≤ y) (cs : Array Value) :
    RM w (((w5.setCell ⟨r, 3, none⟩ (.int .u64 n)).setCell ⟨r, 28, none⟩ (.bool false)).setRow y cs) fp r { s with lim := n, ag := false } := by
  have h5 := h.later hb
  have hr := heap_lt h.blk
  have hu : ∀ F : Nat → Prop, F r → F y → Upd F w5 (((w5.setCell ⟨r, 3, none⟩ (.int .u64 n)).setCell ⟨r, 28, none⟩ (.bool false)).setRow y cs) := fun F hF hy => (((Upd.refl F w5).setCell ⟨r, 3, none⟩ (.inl hF) _).setCell ⟨r, 28, none⟩ (.inl hF) _).setRowN y (.inl hy) cs
  have hbk := set_at (set_at h5.blk 3 (.int .u64 n)) 28 (.bool false)
  refine ⟨fp, ⟨b, fb, ⟨?_, h5.buf.keeps (hu (fun j => j = r ∨ j = y) (.inl rfl) (.inr rfl)) ?_, h.ne, ⟨h.ok.id, h.ok.win, h.ok.st, hn, h.ok.code, h.ok.fnl⟩⟩, hfp⟩, ⟨?_, fun k q => .inl q⟩⟩
  · rw [setRow_other _ y r cs (by omega)]
    exact hbk.trans rfl
  · rintro k hk (rfl | rfl)
    · exact h.ne hk
    · have := h.fbs k hk
      omega
  · subst hfp
    exact ((((Upd.below hb).mono (fun k hk q => by omega)).setCell ⟨r, 3, none⟩ (.inl (.inl rfl)) _).setCell ⟨r, 28, none⟩ (.inl (.inl rfl)) _).setRowN y (.inr hy) cs
theorem RAt0.unstop {w w5 : World} {r b : Nat} {s : RS} {fb fp : Nat → Prop} (h : RAt0 w r s b fb) (hfp : fp = fun j => j = r ∨ fb j) (hb : Below w.heap.size w w5) (y : Nat) (hy : w.heap.size ≤ y) (cs : Array Value) :
    RM w ((w5.setCell ⟨r, 27, none⟩ (.bool false)).setRow y cs) fp r { s with so := false } := by
  have h5 := h.later hb
  have hr := heap_lt h.blk
  have hu : ∀ F : Nat → Prop, F r → F y → Upd F w5 ((w5.setCell ⟨r, 27, none⟩ (.bool false)).setRow y cs) := fun F hF hy => ((Upd.refl F w5).setCell ⟨r, 27, none⟩ (.inl hF) _).setRowN y (.inl hy) cs
  have hbk := set_at h5.blk 27 (.bool false)
  refine ⟨fp, ⟨b, fb, ⟨?_, h5.buf.keeps (hu (fun j => j = r ∨ j = y) (.inl rfl) (.inr rfl)) ?_, h.ne, ⟨h.ok.id, h.ok.win, h.ok.st, h.ok.lim, h.ok.code, h.ok.fnl⟩⟩, hfp⟩, ⟨?_, fun k q => .inl q⟩⟩
  · rw [setRow_other _ y r cs (by omega)]
    exact hbk.trans rfl
  · rintro k hk (rfl | rfl)
    · exact h.ne hk
    · have := h.fbs k hk
      omega
  · subst hfp
    exact (((Upd.below hb).mono (fun k hk q => by omega)).setCell ⟨r, 27, none⟩ (.inl (.inl rfl)) _).setRowN y (.inr hy) cs
/-- 'wpList_load_row' of an operation that has a guard, which is wanted. -/
theorem wpList_load_rowG {P : Program} {ops : Array Oper} {rest : List Oper} {o : Oper} {a : Act} {w : World} {Q : Exit → Act → World → Prop} (hw : Region.wanted o (yielded ops a.tmps) = true) (ty : TypeId) (x : Operand) (ho : o.op = .load ty x)
    (g : Nat) (hx : a.eval x = .pointer (some ⟨g, 0, none⟩)) (t : TypeId) (cs : Array Value) (fr : Nat × Nat) (d : TypeDesc) (hg : w.heap[g]? = some (.cells cs t fr))
    (hu : P.underlying ty = some d) (hd : (match d with | .struct _ | .array _ _ => true | _ => false) = true) (hi : (P.info? ty).map (·.size) = some cs.size)
    (h : wpList P ops Q rest (a.put o.dst (.agg cs)) w) : wpList P ops Q (o :: rest) a w :=
  wpList_step fun K hK => by
    rw [if_pos hw]
    exact wp_load_row ty x ho g hx t cs fr d hg hu hd hi (hK _ _ h)
def frCells (f : Fr) : Array Value := (encF f).toArray
theorem Fr.free {w : World} {z : Nat} {cs : Array Value} {t : TypeId} (h : w.heap[z]? = some (.cells cs t (0, 0))) (o : Nat) : w.frozen? ⟨z, o, none⟩ = false := free_at h o
end Go.Proofs.Ytfdgamlakfkekaa

/- DERIVED. streams: Next: what is kept while it runs; plain. -/
namespace Go.Proofs.Ytfdgamlakfkekaa
open Go.RowKit

theorem out_went {lab lab' : Nat → Lab} {w w' : World} (hw : Went (fun k => lab k ≠ .out) (fun k => lab' k ≠ .out) w w') {k : Nat} (h : lab k = .out) (hk : k < w.heap.size) : lab' k = .out := by
  cases hq : lab' k with
  | out => rfl
  | _ =>
    exfalso
    rcases hw.new k (by rw [hq]; simp) with e | e
    · exact e h
    · have e : w.heap.size ≤ k := e
      omega
/-- Within Next: the set, the result's row, the row of all streams. -/
structure NL (w wA wx : World) (p : Nat) (t : ST) (lab lab' : Nat → Lab) (a b y : Nat) (v : Value) (og : Option Nat) (zs : List (Option Nat)) : Prop where
  st : StAt wx p t lab' a b
  went : Went (fun k => lab k ≠ .out) (fun k => lab' k ≠ .out) w wx
  hy : wx.heap[y]? = some (.cells (encF zeroF).toArray 39 (0, 0))
  yo : lab' y = .out
  yk : YK wA wx a b
  sl : SlG encY 84 wx v og zs
  so : ∀ g, og = some g → lab' g = .out
  ly : w.heap.size ≤ y
theorem NL.later {w wA wx wy : World} {p : Nat} {t : ST} {lab lab' : Nat → Lab} {a b y : Nat} {v : Value} {og : Option Nat} {zs : List (Option Nat)} (h : NL w wA wx p t lab lab' a b y v og zs) (hb : Below wx.heap.size wx wy) : NL w wA wy p t lab lab' a b y v og zs :=
  ⟨h.st.below hb, h.went.later hb, below_keeps hb h.hy (heap_lt h.hy), h.yo, h.yk.trans (YK.below a b hb), h.sl.below hb, h.so, h.ly⟩
theorem NL.turn {w wA wx wy : World} {p : Nat} {t t' : ST} {lab lab' : Nat → Lab} {a b y : Nat} {v : Value} {og : Option Nat} {zs : List (Option Nat)} (h : NL w wA wx p t lab lab' a b y v og zs)
    (k : ∃ lab2, StAt wy p t' lab2 a b ∧ Went (fun k => lab' k ≠ .out) (fun k => lab2 k ≠ .out) wx wy ∧ YK wx wy a b) : ∃ lab2, NL w wA wy p t' lab lab2 a b y v og zs ∧ ∀ j, lab' j = .out → j < wx.heap.size → lab2 j = .out := by
  obtain ⟨lab2, k1, k2, k3⟩ := k
  refine ⟨lab2, ⟨k1, h.went.trans k2, k2.upd.keeps h.hy (fun q => q h.yo), out_went k2 h.yo (heap_lt h.hy), h.yk.trans k3, h.sl.keeps k2.upd (fun g hg q => q (h.so g hg)), fun g hg => out_went k2 (h.so g hg) (h.sl.lt g hg), h.ly⟩, fun j q1 q2 => out_went k2 q1 q2⟩
/-- The result's row is written. -/
theorem NL.ret {w wA wx : World} {p : Nat} {t : ST} {lab lab' : Nat → Lab} {a b y : Nat} {v : Value} {og : Option Nat} {zs : List (Option Nat)} (h : NL w wA wx p t lab lab' a b y v og zs) (cs : Array Value) :
    StAt (wx.setRow y cs) p t lab' a b ∧ Went (fun k => lab k ≠ .out) (fun k => lab' k ≠ .out) w (wx.setRow y cs) := by
  have hu : Upd (fun j => j = y) wx (wx.setRow y cs) := (Upd.refl (fun j => j = y) wx).setRowN y (.inl rfl) cs
  refine ⟨h.st.keeps hu (fun k hk => by rw [show k = y from hk]; exact h.yo), ⟨h.went.upd.trans hu (fun k _ q => q) (fun k hk q => ?_), h.went.new⟩⟩
  have := h.ly
  have q : k = y := q
  omega
/-- A row of one's own, filled. -/
theorem NL.fill {w wA wx : World} {p : Nat} {t : ST} {lab lab' : Nat → Lab} {a b y z : Nat} {v : Value} {og : Option Nat} {zs : List (Option Nat)} {cs0 : Array Value} (h : NL w wA wx p t lab lab' a b y v og zs) (hz : wx.heap[z]? = some (.cells cs0 39 (0, 0))) (zo : lab' z = .out) (zy : z ≠ y) (zw : w.heap.size ≤ z) (cs : Array Value) :
    NL w wA (wx.setRow z cs) p t lab lab' a b y v og zs ∧ (wx.setRow z cs).heap[z]? = some (.cells cs 39 (0, 0)) := by
  have hu : Upd (fun j => j = z) wx (wx.setRow z cs) := (Upd.refl (fun j => j = z) wx).setRowN z (.inl rfl) cs
  have hzg : ∀ g, og = some g → g ≠ z := fun g hg e => by
    rcases h.sl with ⟨_, _, q⟩ | ⟨g', _, q1, _, hr, _⟩
    · rw [q] at hg; cases hg
    · rw [q1] at hg
      cases hg
      have hr : wx.heap[g]? = _ := hr
      rw [e, hz] at hr
      cases hr
  refine ⟨⟨h.st.keeps hu (fun k hk => by rw [show k = z from hk]; exact zo), ⟨h.went.upd.trans hu (fun k _ q => q) (fun k hk q => ?_), h.went.new⟩, hu.keeps h.hy (fun e => zy e.symm), h.yo, h.yk.trans (h.st.yk hu (fun k hk => .inl (by rw [show k = z from hk]; exact zo))), h.sl.keeps hu (fun g hg q => hzg g hg q), h.so, h.ly⟩, setRow_heap _ _ _ _ _ _ hz⟩
  have q : k = z := q
  omega
/-- Does a stream lie at or below the one that was told last? -/
def ST.upto (t : ST) (h : H1) : Bool := t.told && decide (h.id ≤ t.last)
def firstOf (t : ST) : Nat → Nat
  | 0 => 0
  | j + 1 => match t.all[j]? with
    | some x => if t.upto x.2.2 then j + 1 else firstOf t j
    | none => firstOf t j
theorem firstOf_le (t : ST) : ∀ j, firstOf t j ≤ j
  | 0 => Nat.le_refl _
  | j + 1 => by
    have := firstOf_le t j
    unfold firstOf
    split
    · split <;> omega
    · omega
def ST.more (t : ST) : Nat := t.allowed - min t.allowed t.sentN
/-- A receiver's Next does what it should. -/
def RNx (s : RS) (room : Int) : Prop := ∀ (r : Nat) (fp : Nat → Prop) (w : World), RAt w r s fp → Calls Try.prog 36 #[.pointer (some ⟨r, 0, none⟩), .int .i64 room] w fun e w' => e = .returned (.tuple #[.agg (encF (s.nx room).2.1).toArray, .bool (s.nx room).2.2]) ∧ RM w w' fp r (s.nx room).1
theorem nx_no {s : RS} {room : Int} (h : (s.nx room).2.2 = false) : (s.nx room).1 = s ∧ (s.nx room).2.1 = zeroF := by
  unfold RS.nx at h ⊢
  split at h
  · split at h
    · rename_i h1 h2
      rw [if_pos h1, if_pos h2]
      exact ⟨rfl, rfl⟩
    · cases h
  · split at h
    · rename_i h1 h2
      rw [if_neg h1, if_pos h2]
      exact ⟨rfl, rfl⟩
    · cases h
theorem rnx_id (s : RS) (room : Int) : (s.nx room).1.id = s.id := by
  unfold RS.nx
  split
  · split <;> rfl
  · split <;> rfl
theorem snx_id (s : SS) (room : Int) (more : Nat) : (s.nx room more).1.id = s.id := by
  unfold SS.nx
  split
  · split <;> rfl
  · split
    · rfl
    · split <;> rfl
theorem snx_no {s : SS} {room : Int} {more : Nat} (h : (s.nx room more).2.ok = false) : (s.nx room more).1 = s := by
  unfold SS.nx at h ⊢
  split at h
  · rename_i h1
    rw [if_pos h1]
    split at h
    · cases h
    · rename_i h2
      rw [if_neg h2]
  · rename_i h1
    rw [if_neg h1]
    split at h
    · rename_i h2
      rw [if_pos h2]
    · rename_i h2
      rw [if_neg h2]
      split at h
      · first | rfl | (rename_i h3; rw [h3])
      · cases h
theorem one1_hs {o : Bool} {n : Nat} {x : Option H1} {L : List H1} (hx : L[n]? = x) {z : Bool × Nat × H1} (hz : z ∈ one1 o n x) : z.1 = o ∧ L[z.2.1]? = some z.2.2 := by
  cases x with
  | none => simp [one1] at hz
  | some h =>
    simp only [one1, List.mem_singleton] at hz
    subst hz
    exact ⟨rfl, hx⟩
theorem inter_hs {oa ob : Bool} {A B : List H1} : ∀ n, ∀ z ∈ inter oa ob A B n, (z.1 = oa ∧ A[z.2.1]? = some z.2.2) ∨ (z.1 = ob ∧ B[z.2.1]? = some z.2.2)
  | 0 => fun z hz => by simp [inter] at hz
  | n + 1 => fun z hz => by
    simp only [inter, List.mem_append] at hz
    rcases hz with (hz | hz) | hz
    · exact inter_hs n z hz
    · exact .inl (one1_hs rfl hz)
    · exact .inr (one1_hs rfl hz)
theorem ST.all_hs {t : ST} {x : Bool × Nat × H1} (h : x ∈ t.all) : (t.hs x.1)[x.2.1]? = some x.2.2 := by
  have key : ∀ o, (x.1 = o ∧ (t.hs o)[x.2.1]? = some x.2.2) → (t.hs x.1)[x.2.1]? = some x.2.2 := fun o q => by rw [q.1]; exact q.2
  unfold ST.all at h
  split at h
  · rcases inter_hs _ x h with q | q
    · exact key true q
    · exact key false q
  · rcases inter_hs _ x h with q | q
    · exact key false q
    · exact key true q
theorem encF_one {f : Fr} {o1 o2 : Option Addr} {l1 c1 l2 c2 : Nat} (h1 : f.vd = .slice o1 l1 c1) (h2 : f.vr = .slice o2 l2 c2) : (encF f).toArray.all (·.oneCell') = true := by
  simp [encF, h1, h2, Value.oneCell']
theorem rnx_one (s : RS) (room : Int) : (encF (s.nx room).2.1).toArray.all (·.oneCell') = true := by
  have hs : ∀ id x, (encF (stopF id x)).toArray.all (·.oneCell') = true := fun id x => by
    cases x <;> exact encF_one rfl rfl
  unfold RS.nx
  split
  · split
    · exact encF_one rfl rfl
    · exact hs _ _
  · split
    · exact encF_one rfl rfl
    · exact encF_one rfl rfl
theorem nf_one (nf : NF) (id : Nat) (rs : Option (Nat × Nat)) {v : Value} {o : Option Addr} {l c : Nat} (hv : v = .slice o l c) : (encF (nf.fr id rs v)).toArray.all (·.oneCell') = true := by
  subst hv
  cases nf with
  | none => exact encF_one rfl rfl
  | rst =>
    show (encF (resetF id rs)).toArray.all _ = true
    cases rs <;> exact encF_one rfl rfl
  | piece off len fin => exact encF_one rfl rfl
end Go.Proofs.Ytfdgamlakfkekaa

/- DERIVED. narthexlaw18's StreamsRing: what a's streams are, and what each Next tells; plain. -/
namespace Go.Proofs.Ytfdgamlakfkekaa
open Go.RowKit

/-- A sender after τ turns of 40 bytes. -/
def rS (id lim : Nat) (B : List Nat) (τ : Nat) : SS := ⟨id, if τ = 0 then 1 else 2, lim, none, false, { OS.zero with B := B, sent := 40 * τ }⟩
theorem rS_nx (id lim more τ : Nat) (B : List Nat) (ht : τ < 5) (h1 : 400 ≤ B.length) (hl : 1000 ≤ lim) (hm : 40 ≤ more) : (rS id lim B τ).nx 60 more = (rS id lim B (τ + 1), .piece (40 * τ) 40 false) := by
  have hst : ¬ 5 ≤ (rS id lim B τ).st := by unfold rS; simp only; split <;> omega
  unfold SS.nx
  rw [if_neg hst, if_neg (by omega)]
  have e : (rS id lim B τ).os.nxt ((min (60 : Int) 512 - 20).toNat) (min (rS id lim B τ).lim ((rS id lim B τ).os.sent + min more 1099511627776)) = some (40 * τ, 40, false, (rS id lim B (τ + 1)).os) := by
    rw [show ((min (60 : Int) 512 - 20).toNat) = 40 from by decide]
    have hp : (rS id lim B τ).os.part (min (rS id lim B τ).lim ((rS id lim B τ).os.sent + min more 1099511627776)) = (40 * τ, max (40 * τ) (min (min lim (40 * τ + min more 1099511627776)) B.length)) := rfl
    unfold OS.nxt
    rw [hp]
    simp only
    have ht2 : min (max (40 * τ) (min (min lim (40 * τ + min more 1099511627776)) B.length)) (40 * τ + 40) = 40 * τ + 40 := by omega
    have hB : (rS id lim B τ).os.B = B := rfl
    rw [ht2, if_pos (by omega), hB]
    have hd : decide (40 * τ + 40 = B.length) = false := decide_eq_false (by omega)
    rw [hd]
    simp only [Bool.false_and]
    have hw : (rS id lim B τ).os.went (40 * τ) (40 * τ + 40) = (rS id lim B (τ + 1)).os := by
      unfold OS.went
      rw [hB, hd]
      unfold rS OS.zero cutRaw
      simp only [List.flatMap_nil, Bool.false_and, Bool.or_false, Bool.not_false, Bool.and_true]
      congr 1
      omega
    rw [hw, show 40 * τ + 40 - 40 * τ = 40 from by omega]
  rw [e]
  have hs : max (max (rS id lim B τ).st 2) 0 = (rS id lim B (τ + 1)).st := by
    unfold rS
    simp only
    rw [if_neg (show ¬ τ + 1 = 0 by omega)]
    split <;> rfl
  simp only [if_false, Bool.false_eq_true]
  rw [hs]
  rfl
/-- How many turns stream c of k has had after i calls. -/
def tau (k i c : Nat) : Nat := (i + (k - 1 - c)) / k
theorem tau_step {k i : Nat} (hk : 0 < k) (c : Nat) (hc : c < k) : tau k (i + 1) c = if c = i % k then tau k i c + 1 else tau k i c := by
  unfold tau
  have hq := Nat.div_add_mod i k
  have hm := Nat.mod_lt i hk
  obtain ⟨q, hqe⟩ : ∃ q, i / k = q := ⟨_, rfl⟩
  obtain ⟨m, hme⟩ : ∃ m, i % k = m := ⟨_, rfl⟩
  rw [hqe, hme] at hq
  rw [hme] at hm ⊢
  have key : ∀ r d, r < k → (k * q + (d * k + r)) / k = q + d := fun r d hr => by
    rw [show k * q + (d * k + r) = r + k * (q + d) from by rw [Nat.mul_add, Nat.mul_comm d k]; omega, Nat.add_mul_div_left _ _ hk, Nat.div_eq_of_lt hr]
    omega
  rw [← hq]
  by_cases h : c = m
  · rw [if_pos h]
    have e1 := key 0 1 hk
    have e2 := key (m + (k - 1 - c)) 0 (by omega)
    rw [show k * q + m + 1 + (k - 1 - c) = k * q + (1 * k + 0) from by omega, show k * q + m + (k - 1 - c) = k * q + (0 * k + (m + (k - 1 - c))) from by omega, e1, e2]
  · rw [if_neg h]
    rcases Nat.lt_or_ge c m with hcm | hcm
    · have e1 := key (m + 1 + (k - 1 - c) - k) 1 (by omega)
      have e2 := key (m + (k - 1 - c) - k) 1 (by omega)
      rw [show k * q + m + 1 + (k - 1 - c) = k * q + (1 * k + (m + 1 + (k - 1 - c) - k)) from by omega, show k * q + m + (k - 1 - c) = k * q + (1 * k + (m + (k - 1 - c) - k)) from by omega, e1, e2]
    · have e1 := key (m + 1 + (k - 1 - c)) 0 (by omega)
      have e2 := key (m + (k - 1 - c)) 0 (by omega)
      rw [show k * q + m + 1 + (k - 1 - c) = k * q + (0 * k + (m + 1 + (k - 1 - c))) from by omega, show k * q + m + (k - 1 - c) = k * q + (0 * k + (m + (k - 1 - c))) from by omega, e1, e2]
theorem tau_lt {k i : Nat} (hk : 0 < k) (hi : i < 5 * k) : tau k i (i % k) < 5 := by
  unfold tau
  have hq := Nat.div_add_mod i k
  have hm := Nat.mod_lt i hk
  rw [Nat.div_lt_iff_lt_mul hk]
  have h5 : i / k < 5 := (Nat.div_lt_iff_lt_mul hk).2 hi
  have : k * (i / k) ≤ k * 4 := Nat.mul_le_mul_left k (by omega)
  omega
end Go.Proofs.Ytfdgamlakfkekaa
