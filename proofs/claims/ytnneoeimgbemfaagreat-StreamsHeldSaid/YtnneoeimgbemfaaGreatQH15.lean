/- DERIVED. Walk of receiver's On. -/
import Derived.StillTailTactics
import Derived.Deep.RegionLaw
import Derived.Deep.MidRow
import Derived.Laws.Bits64b
import Derived.Test.YtnneoeimgbemfaaGreatQH3
import Derived.Test.YtnneoeimgbemfaaGreatQH4
import Derived.Test.YtnneoeimgbemfaaGreatQH5
import Derived.Test.YtnneoeimgbemfaaGreatQH8
import Derived.Test.YtnneoeimgbemfaaGreatQH10
import Derived.Test.YtnneoeimgbemfaaGreatQH11
import Derived.Test.YtnneoeimgbemfaaGreatQH12
set_option linter.all false
namespace Go.Proofs.YtnneoeimgbemfaaGreat
open Go.RowKit

theorem VwA.went {α : Type} {enc : α → List Value} {w w2 : World} {v : Value} {xs : List α} {fp fb : Nat → Prop} (h : VwA enc fp w v xs) (hb : Below w.heap.size w w2) (hn : ∀ j, fb j → fp j ∨ w.heap.size ≤ j) : VwA enc fb w2.drew v xs := by
  have h' := (h.below hb).below (Below.refl _ _).drew
  obtain ⟨oa, cap, h1, h2, h3, h4⟩ := h
  obtain ⟨oa', cap', k1, k2, k3, k4⟩ := h'
  subst h1
  cases k1
  refine ⟨_, _, rfl, h2, h3, ?_⟩
  rcases h4 with h4 | ⟨b, off, rfl, h5, h6, h7⟩
  · exact .inl h4
  · rcases k4 with k4 | ⟨b', off', e, k5, k6, k7⟩
    · exact .inl k4
    · cases e
      refine .inr ⟨b, off, rfl, k5, fun q => ?_, k7⟩
      rcases hn b q with x | x
      · exact h6 x
      · omega
theorem RAt0.added {w w3 : World} {r b : Nat} {s : RS} {fb fb' : Nat → Prop} {ib' : IB} (h : RAt0 w r s b fb) (hi : IbAt w3 b ib' fb') (hw : Went fb fb' w w3) : RAt0 w3 r { s with ib := ib' } b fb' :=
  ⟨hw.upd.keeps h.blk h.ne, hi, fun q => by
    rcases hw.new r q with x | x
    · exact h.ne x
    · have := heap_lt h.blk
      omega, ⟨h.ok.id, h.ok.win, h.ok.st, h.ok.lim, h.ok.code, h.ok.fnl⟩⟩
theorem RAt0.setSt {w : World} {r b : Nat} {s : RS} {fb : Nat → Prop} (h : RAt0 w r s b fb) (n : Nat) (h1 : 1 ≤ n) (h2 : n ≤ 6) : RAt0 (w.setCell ⟨r, 2, none⟩ (.int .i64 n)) r { s with st := n } b fb := by
  have hu : Upd (fun j => j = r) w (w.setCell ⟨r, 2, none⟩ (.int .i64 n)) := (Upd.refl (fun j => j = r) w).setCell ⟨r, 2, none⟩ (.inl rfl) _
  exact ⟨(set_at h.blk 2 _).trans rfl, h.buf.keeps hu (fun k hk e => h.ne (by subst e; exact hk)), h.ne, ⟨h.ok.id, h.ok.win, ⟨h1, h2⟩, h.ok.lim, h.ok.code, h.ok.fnl⟩⟩
theorem RAt0.later {w w' : World} {r b : Nat} {s : RS} {fb : Nat → Prop} (h : RAt0 w r s b fb) (hb : Below w.heap.size w w') : RAt0 w' r s b fb :=
  ⟨below_keeps hb h.blk (heap_lt h.blk), h.buf.below hb, h.ne, h.ok⟩
/-- The receiver as it goes: where its buffer lies. -/
def RGo (w0 w : World) (fp : Nat → Prop) (r : Nat) (s : RS) (b : Nat) : Prop := ∃ fb, RAt0 w r s b fb ∧ Went fp (fun j => j = r ∨ fb j) w0 w
theorem RGo.rm {w0 w : World} {fp : Nat → Prop} {r b : Nat} {s : RS} (h : RGo w0 w fp r s b) : RM w0 w fp r s := by
  obtain ⟨fb, h1, h2⟩ := h
  exact ⟨_, ⟨b, fb, h1, rfl⟩, h2⟩
theorem RAt.go {w : World} {r : Nat} {s : RS} {fp : Nat → Prop} (h : RAt w r s fp) : ∃ b, RGo w w fp r s b := by
  obtain ⟨b, fb, h1, rfl⟩ := h
  exact ⟨b, fb, h1, Went.refl _ _⟩
theorem RGo.later {w0 w w' : World} {fp : Nat → Prop} {r b : Nat} {s : RS} (h : RGo w0 w fp r s b) (hb : Below w.heap.size w w') : RGo w0 w' fp r s b := by
  obtain ⟨fb, h1, h2⟩ := h
  exact ⟨fb, h1.later hb, h2.later hb⟩
theorem RGo.added {w0 w w3 : World} {fp : Nat → Prop} {r b : Nat} {s : RS} {ib' : IB} {fb : Nat → Prop} (h1 : RAt0 w r s b fb) (h2 : Went fp (fun j => j = r ∨ fb j) w0 w) (hi : ∃ fb', IbAt w3 b ib' fb' ∧ Went fb fb' w w3) : RGo w0 w3 fp r { s with ib := ib' } b := by
  obtain ⟨fb', hi, hw⟩ := hi
  refine ⟨fb', h1.added hi hw, h2.trans (g := fun j => j = r ∨ fb j) ⟨hw.upd.mono (fun j _ x => .inr x), ?_⟩⟩
  rintro k (q | q)
  · exact .inl (.inl q)
  · exact (hw.new k q).imp .inr id
theorem RGo.setSt {w0 w : World} {fp : Nat → Prop} {r b : Nat} {s : RS} (h : RGo w0 w fp r s b) (n : Nat) (q1 : 1 ≤ n) (q2 : n ≤ 6) : RGo w0 (w.setCell ⟨r, 2, none⟩ (.int .i64 n)) fp r { s with st := n } b := by
  obtain ⟨fb, h1, h2⟩ := h
  refine ⟨fb, h1.setSt n q1 q2, h2.trans ⟨(Upd.refl _ w).setCell ⟨r, 2, none⟩ (.inl (.inl rfl)) _, fun k q => .inl q⟩⟩
theorem RGo.reset {w0 w : World} {fp : Nat → Prop} {r b : Nat} {s : RS} (h : RGo w0 w fp r s b) (c f : Nat) (hc : c < 18446744073709551616) (hf : f ≤ 1099511640000) :
    RGo w0 (((w.setCell ⟨r, 2, none⟩ (.int .i64 5)).setCell ⟨r, 5, none⟩ (.int .u64 c)).setCell ⟨r, 6, none⟩ (.int .u64 f)) fp r { s with st := 5, code := c, fnl := f } b := by
  obtain ⟨fb, h1, h2⟩ := h
  have hu : ∀ F : Nat → Prop, F r → Upd F w (((w.setCell ⟨r, 2, none⟩ (.int .i64 5)).setCell ⟨r, 5, none⟩ (.int .u64 c)).setCell ⟨r, 6, none⟩ (.int .u64 f)) := fun F hF => (((Upd.refl F w).setCell ⟨r, 2, none⟩ (.inl hF) _).setCell ⟨r, 5, none⟩ (.inl hF) _).setCell ⟨r, 6, none⟩ (.inl hF) _
  refine ⟨fb, ⟨(set_at (set_at (set_at h1.blk 2 _) 5 _) 6 _).trans rfl, h1.buf.keeps (hu (fun j => j = r) rfl) (fun k hk e => h1.ne (by subst e; exact hk)), h1.ne, ⟨h1.ok.id, h1.ok.win, ⟨by show 1 ≤ 5; omega, by show 5 ≤ 6; omega⟩, h1.ok.lim, hc, hf⟩⟩, h2.trans ⟨hu _ (.inl rfl), fun k q => .inl q⟩⟩
theorem RGo.cells {w0 w : World} {fp : Nat → Prop} {r b : Nat} {s : RS} (h : RGo w0 w fp r s b) : w.cell? ⟨r, 2, none⟩ = some (.int .i64 s.st) ∧ w.cell? ⟨r, 4, none⟩ = some (.pointer (some ⟨b, 0, none⟩)) ∧ w.cell? ⟨r, 5, none⟩ = some (.int .u64 s.code) ∧ w.cell? ⟨r, 6, none⟩ = some (.int .u64 s.fnl) ∧
    ∀ j, w.frozen? ⟨r, j, none⟩ = false := by
  obtain ⟨fb, h1, _⟩ := h
  exact ⟨(cell_at h1.blk 2).trans rfl, (cell_at h1.blk 4).trans rfl, (cell_at h1.blk 5).trans rfl, (cell_at h1.blk 6).trans rfl, fun j => free_at h1.blk j⟩
set_option maxRecDepth 100000 in
set_option maxHeartbeats 4000000 in
theorem ron_any (r : Nat) (s : RS) (fp : Nat → Prop) (f : Fr) (od : Option Addr) (n cd : Nat) (d : List Nat) (w : World) (h : RAt w r s fp) (hf : FrOk f) (hv : f.vd = .slice od n cd) (hd : VwA encB fp w f.vd d) (hb : Bys d) (hdn : d.length = n) (hn : n ≤ 9223372036854775807) :
    Calls Tryz.prog 30 #[.pointer (some ⟨r, 0, none⟩), .agg (encF f).toArray] w fun e w' => e = .returned (.int .i64 (s.onErr f n)) ∧ RM w w' fp r (s.on f d) := by
  obtain ⟨b, hgo⟩ := h.go
  have HGO := Lib.hid hgo
  have HM0 := Lib.hid (fun w => fun (hb : Below w.heap.size w w) => rmay_any r s fp f od n cd w)
  obtain ⟨kd, sid, off, vd, fin, lim, code, fnl, seq, dly, vr, c0, c1, c2, c3, c4, c5, c6, c7⟩ := f
  obtain rfl : vd = .slice od n cd := hv
  have H := Lib.hid h
  have HF := Lib.hid hf
  have hst := h.ok.st
  have hoff := hf.off
  have hcode := hf.code
  have hfnl := hf.fnl
  simp only at hoff hcode hfnl hd
  have hlm := h.ok.lim
  obtain ⟨q, hq⟩ : ∃ q, s.onErr ⟨kd, sid, off, .slice od n cd, fin, lim, code, fnl, seq, dly, vr, c0, c1, c2, c3, c4, c5, c6, c7⟩ n = q := ⟨_, rfl⟩
  obtain ⟨s2, hs2⟩ : ∃ s2, s.on ⟨kd, sid, off, .slice od n cd, fin, lim, code, fnl, seq, dly, vr, c0, c1, c2, c3, c4, c5, c6, c7⟩ d = s2 := ⟨_, rfl⟩
  obtain ⟨m, hm⟩ : ∃ m, s.may ⟨kd, sid, off, .slice od n cd, fin, lim, code, fnl, seq, dly, vr, c0, c1, c2, c3, c4, c5, c6, c7⟩ n = m := ⟨_, rfl⟩
  have HMM := Lib.hid (fun w h => rmay_any r s fp ⟨kd, sid, off, .slice od n cd, fin, lim, code, fnl, seq, dly, vr, c0, c1, c2, c3, c4, c5, c6, c7⟩ od n cd w h hf rfl hn)
  have hrs : m = 0 → kd = 4 → fnl ≤ s.lim := by
    intro h1 h2
    rw [h1] at hm
    unfold RS.may at hm
    split at hm
    · cases hm
    · split at hm
      · cases hm
      · rename_i h3
        simp only [endOf, h2, if_true] at h3
        omega
  have HRS := Lib.hid hrs
  have HQ := Lib.hid (show (if m ≠ 0 then m else if 5 ≤ s.st then 0 else if kd = 4 then 0 else s.ib.err off n fin) = q from by rw [← hq, ← hm]; rfl)
  have HS2 := Lib.hid (show (if m ≠ 0 then s else if 5 ≤ s.st then s else if kd = 4 then (if s.st ≤ 2 then { s with st := 5, code := code, fnl := fnl } else s) else if s.ib.err off n fin ≠ 0 then s
      else { s with ib := s.ib.add off d fin, st := nextSt s.st (s.ib.add off d fin) }) = s2 from by rw [← hs2, ← hm, ← hdn]; rfl)
  rw [hq, hs2]
  simp only [encF, hm] at HMM ⊢
  have HD := Lib.hid (And.intro hd (And.intro hb hdn))
  obtain ⟨st, hst0⟩ : ∃ st, s.st = st := ⟨_, rfl⟩
  have HST := Lib.hid hst0
  rw [hst0] at hst HQ HS2
  clear h hf hq hs2 hm hgo hd hb hdn hrs hst0 HM0
  go_enter Tryz.func30, Tryz.ntmps30
  go_upto_region 0 with fail
  go_cut [3] (fun v wx => ∃ z, v = .pointer (some ⟨z, 0, none⟩) ∧ w.heap.size ≤ z ∧ Below w.heap.size w wx ∧ wx.heap[z]? = some (.cells #[.int .i64 kd, .int .u64 sid, .int .u64 off, .slice od n cd, .bool fin, .int .u64 lim, .int .u64 code, .int .u64 fnl, .int .u64 seq, .int .u64 dly, vr,
    .int .u8 c0, .int .u8 c1, .int .u8 c2, .int .u8 c3, .int .u8 c4, .int .u8 c5, .int .u8 c6, .int .u8 c7] 46 (0, 0)))
  case first =>
    go_wp2_with fail
    go_meet
    case rel => exact ⟨_, rfl, Nat.le_refl _, (Below.refl _ _).alloc (Nat.le_refl _) _, alloc_at _ _⟩
  case rest =>
    obtain ⟨z, rfl, hz, hb1, hkz⟩ := hcut
    generalize wc = w1 at *
    have HKZ := Lib.hid hkz
    have H1 := Lib.hid (H.out.below hb1)
    have HB1 := Lib.hid hb1
    have HZ := Lib.hid hz
    clear hb1 hz
    go_wp2_with (refine wpList_load_row rfl 46 (.tmp 3) rfl z rfl 46 _ (0, 0) _ (by exact hkz) Tryz.underlying46 rfl (by rw [sizeF]; rfl) ?_)
    clear hkz
    refine (HMM.out _ (by exact H1.out)).mono ?_
    rintro e w2 ⟨rfl, hb2⟩
    have HKZ2 := Lib.hid (below_keeps hb2 HKZ.out (heap_lt HKZ.out))
    have HB2 := Lib.hid (below_call HB1.out HB1.out.size hb2)
    have HG2 := Lib.hid (HGO.out.later HB2.out)
    clear hb2 HKZ H1 HMM HB1
    by_cases m0 : m = 0
    · subst m0
      have HQ2 := Lib.hid ((if_neg (by simp)).symm.trans HQ.out)
      have HS3 := Lib.hid ((if_neg (by simp)).symm.trans HS2.out)
      obtain ⟨e2, e4, e5, e6, q0⟩ := HG2.out.cells
      rw [HST.out] at e2
      have z0 := (cell_at HKZ2.out 0).trans (by rfl : _ = some (Value.int .i64 kd))
      clear HQ HS2
      by_cases h5 : 5 ≤ st
      · have h5i : (5 : Int) ≤ (st : Int) := by omega
        have eq0 : q = 0 := by rw [← HQ2.out, if_pos h5]
        have es : s2 = s := by rw [← HS3.out, if_pos h5]
        subst eq0 es
        clear e4 e5 e6 q0 z0
        go_wp2_with fail
        go_ret
        exact ⟨rfl, HG2.out.rm⟩
      · have h5i : ¬ (5 : Int) ≤ (st : Int) := by omega
        have HQ3 := Lib.hid ((if_neg h5).symm.trans HQ2.out)
        have HS4 := Lib.hid ((if_neg h5).symm.trans HS3.out)
        clear HQ2 HS3
        by_cases hk4 : kd = 4
        · have eq0 : q = 0 := by rw [← HQ3.out, if_pos hk4]
          have HS5 := Lib.hid ((if_pos hk4).symm.trans HS4.out)
          have hfl := HRS.out (by first | rfl | trivial) hk4
          subst eq0 hk4
          clear HQ3 HS4
          by_cases h2 : st ≤ 2
          · have h2i : (st : Int) ≤ 2 := by omega
            have es : s2 = { s with st := 5, code := code, fnl := fnl } := by rw [← HS5.out, if_pos h2]
            have HM := Lib.hid (show RM w (((w2.drew.setCell ⟨r, 2, none⟩ (.int .i64 5)).setCell ⟨r, 5, none⟩ (.int .u64 code)).setCell ⟨r, 6, none⟩ (.int .u64 fnl)) fp r s2 from by
              rw [es]
              exact ((HG2.out.later (Below.refl _ _).drew).reset code fnl hcode (by omega)).rm)
            have hzr : ¬ z = r := by
              have := HZ.out
              have := H.out.lt.2 r H.out.lt.1
              omega
            have hrz : ¬ r = z := fun e => hzr e.symm
            have HSof := Lib.hid (show ∀ W, Upd (fun j => j = r) w2.drew W → W.cell? ⟨z, 6, none⟩ = some (.int .u64 code) ∧ W.cell? ⟨z, 7, none⟩ = some (.int .u64 fnl) from fun W h => by
              have hk := h.keeps (show w2.drew.heap[z]? = _ from HKZ2.out) hzr
              exact ⟨(cell_at hk 6).trans rfl, (cell_at hk 7).trans rfl⟩)
            have q2 := q0 2
            have q5 := q0 5
            have q6 := q0 6
            clear es q0 e4 HS5
            go_wp2_with fail
            have hu : Upd (fun j => j = r) w2.drew w2.drew := Upd.refl _ _
            refine wp_region_till (S := fun w' => w'.cell? ⟨z, 6, none⟩ = some (.int .u64 code) ∧ w'.cell? ⟨z, 7, none⟩ = some (.int .u64 fnl)) [] (by kernel_rfl) (by exact HSof.out _ hu) (fun hHeld => ?_)
            refine wpTill_take0 (i := 0) (oi := ⟨some 30, _, _, _, _, _⟩) (v := ?_) rfl (by kernel_rfl) (fun _ _ _ h => h) (Or.inl ⟨by rfl, ?_⟩) (fun _ => hHeld) ?_
            rotate_left
            · intro w hSw
              (try dsimp only at hSw)
              go_simp
              try with_reducible rfl
            try simp only [Act.put, List.setIfInBounds_toArray, List.set_cons_zero, List.set_cons_succ]
            refine wpTill_take0 (i := 1) (oi := ⟨some 31, _, _, _, _, _⟩) (v := ?_) rfl (by kernel_rfl) (fun _ _ _ h => h) (Or.inl ⟨by rfl, ?_⟩) (fun _ => hHeld) ?_
            rotate_left
            · intro w hSw
              (try dsimp only at hSw)
              go_simp
              try with_reducible rfl
            try simp only [Act.put, List.setIfInBounds_toArray, List.set_cons_zero, List.set_cons_succ]
            refine wpTill_take0 (i := 2) (oi := ⟨some 32, _, _, _, _, _⟩) (v := ?_) rfl (by kernel_rfl) (fun _ _ _ h => h) (Or.inl ⟨by rfl, ?_⟩) (fun _ => hHeld) ?_
            rotate_left
            · intro w hSw
              (try dsimp only at hSw)
              go_simp
              try with_reducible rfl
            try simp only [Act.put, List.setIfInBounds_toArray, List.set_cons_zero, List.set_cons_succ]
            refine wpTill_take0 (i := 3) (oi := ⟨some 33, _, _, _, _, _⟩) (v := ?_) rfl (by kernel_rfl) (fun _ _ _ h => h) (Or.inl ⟨by rfl, ?_⟩) (fun _ => hHeld) ?_
            rotate_left
            · intro w hSw
              (try dsimp only at hSw)
              go_simp
              try with_reducible rfl
            try simp only [Act.put, List.setIfInBounds_toArray, List.set_cons_zero, List.set_cons_succ]
            refine wpTill_take (i := 4) (oi := ⟨some 34, _, _, _, _, _⟩) (v := ?_) rfl (by kernel_rfl) (fun _ _ _ h => h) (Or.inl ⟨by rfl, ?_⟩) (by exact hHeld) ?_
            rotate_left
            · intro w hSw
              (try dsimp only at hSw)
              go_simp
              try with_reducible rfl
            try simp only [Act.put, List.setIfInBounds_toArray, List.set_cons_zero, List.set_cons_succ]
            refine wpTill_take0 (i := 5) (oi := ⟨some 35, _, _, _, _, _⟩) (v := ?_) rfl (by kernel_rfl) (fun _ _ _ h => h) (Or.inl ⟨by rfl, ?_⟩) (fun _ => hHeld) ?_
            rotate_left
            · intro w hSw
              (try dsimp only at hSw)
              go_simp
              try with_reducible rfl
            try simp only [Act.put, List.setIfInBounds_toArray, List.set_cons_zero, List.set_cons_succ]
            refine wpTill_take (i := 6) (oi := ⟨some 36, _, _, _, _, _⟩) (v := ?_) rfl (by kernel_rfl) (fun _ _ _ h => h) (Or.inl ⟨by rfl, ?_⟩) (by exact hHeld) ?_
            rotate_left
            · intro w hSw
              (try dsimp only at hSw)
              go_simp
              try with_reducible rfl
            try simp only [Act.put, List.setIfInBounds_toArray, List.set_cons_zero, List.set_cons_succ]
            refine wpTill_take0 (i := 7) (oi := ⟨some 37, _, _, _, _, _⟩) (v := ?_) rfl (by kernel_rfl) (fun _ _ _ h => h) (Or.inl ⟨by rfl, ?_⟩) (fun _ => hHeld) ?_
            rotate_left
            · intro w hSw
              (try dsimp only at hSw)
              go_simp
              try with_reducible rfl
            try simp only [Act.put, List.setIfInBounds_toArray, List.set_cons_zero, List.set_cons_succ]
            refine wpTill_take0 (i := 8) (oi := ⟨some 38, _, _, _, _, _⟩) (v := ?_) rfl (by kernel_rfl) (fun _ _ _ h => h) (Or.inl ⟨by rfl, ?_⟩) (fun _ => hHeld) ?_
            rotate_left
            · intro w hSw
              (try dsimp only at hSw)
              go_simp
              try with_reducible rfl
            try simp only [Act.put, List.setIfInBounds_toArray, List.set_cons_zero, List.set_cons_succ]
            refine wpTill_ready (rs := [9]) (by kernel_rfl) (by simp) ?_
            refine AllTill.cons (o := ⟨none, _, _, _, _, _⟩) rfl (fun K hK => ?_) AllTill.nil
            go_simp
            have hu := hu.setCell ⟨r, 2, none⟩ (.inl rfl) (.int .i64 5)
            refine hK.out _ _ (by exact HSof.out _ hu) (fun hHeld => ?_)
            clear hK K
            try simp only [Act.put, List.setIfInBounds_toArray, List.set_cons_zero, List.set_cons_succ]
            refine wpTill_take0 (i := 10) (oi := ⟨some 39, _, _, _, _, _⟩) (v := ?_) rfl (by kernel_rfl) (fun _ _ _ h => h) (Or.inl ⟨by rfl, ?_⟩) (fun _ => hHeld) ?_
            rotate_left
            · intro w hSw
              (try dsimp only at hSw)
              go_simp
              try with_reducible rfl
            try simp only [Act.put, List.setIfInBounds_toArray, List.set_cons_zero, List.set_cons_succ]
            refine wpTill_take0 (i := 11) (oi := ⟨some 40, _, _, _, _, _⟩) (v := ?_) rfl (by kernel_rfl) (fun _ _ _ h => h) (Or.inl ⟨by rfl, ?_⟩) (fun _ => hHeld) ?_
            rotate_left
            · intro w hSw
              (try dsimp only at hSw)
              go_simp
              try with_reducible rfl
            try simp only [Act.put, List.setIfInBounds_toArray, List.set_cons_zero, List.set_cons_succ]
            refine wpTill_ready (rs := [12]) (by kernel_rfl) (by simp) ?_
            refine AllTill.cons (o := ⟨none, _, _, _, _, _⟩) rfl (fun K hK => ?_) AllTill.nil
            go_simp
            have hu := hu.setCell ⟨r, 5, none⟩ (.inl rfl) (.int .u64 code)
            refine hK.out _ _ (by exact HSof.out _ hu) (fun hHeld => ?_)
            clear hK K
            try simp only [Act.put, List.setIfInBounds_toArray, List.set_cons_zero, List.set_cons_succ]
            refine wpTill_take0 (i := 13) (oi := ⟨some 41, _, _, _, _, _⟩) (v := ?_) rfl (by kernel_rfl) (fun _ _ _ h => h) (Or.inl ⟨by rfl, ?_⟩) (fun _ => hHeld) ?_
            rotate_left
            · intro w hSw
              (try dsimp only at hSw)
              go_simp
              try with_reducible rfl
            try simp only [Act.put, List.setIfInBounds_toArray, List.set_cons_zero, List.set_cons_succ]
            refine wpTill_take0 (i := 14) (oi := ⟨some 42, _, _, _, _, _⟩) (v := ?_) rfl (by kernel_rfl) (fun _ _ _ h => h) (Or.inl ⟨by rfl, ?_⟩) (fun _ => hHeld) ?_
            rotate_left
            · intro w hSw
              (try dsimp only at hSw)
              go_simp
              try with_reducible rfl
            try simp only [Act.put, List.setIfInBounds_toArray, List.set_cons_zero, List.set_cons_succ]
            refine wpTill_ready (rs := [15]) (by kernel_rfl) (by simp) ?_
            refine AllTill.cons (o := ⟨none, _, _, _, _, _⟩) rfl (fun K hK => ?_) AllTill.nil
            go_simp
            have hu := hu.setCell ⟨r, 6, none⟩ (.inl rfl) (.int .u64 fnl)
            refine hK.out _ _ (by exact HSof.out _ hu) (fun hHeld => ?_)
            clear hK K
            try simp only [Act.put, List.setIfInBounds_toArray, List.set_cons_zero, List.set_cons_succ]
            refine wpTill_done (by kernel_rfl) ?_ _
            go_wp2_with fail
            go_ret
            exact ⟨rfl, HM.out⟩
          · have h2i : ¬ (st : Int) ≤ 2 := by omega
            have es : s2 = s := by rw [← HS5.out, if_neg h2]
            subst es
            clear e4 e5 e6 q0
            go_wp2_with fail
            go_ret
            exact ⟨rfl, HG2.out.rm⟩
        · have hk4b : (kd == 4) = false := by simpa using hk4
          have HQ4 := Lib.hid ((if_neg hk4).symm.trans HQ3.out)
          have HS5 := Lib.hid ((if_neg hk4).symm.trans HS4.out)
          clear HQ3 HS4 hk4
          have z2 := (cell_at HKZ2.out 2).trans (by rfl : _ = some (Value.int .u64 off))
          have z3 := (cell_at HKZ2.out 3).trans (by rfl : _ = some (Value.slice od n cd))
          have z4 := (cell_at HKZ2.out 4).trans (by rfl : _ = some (Value.bool fin))
          obtain ⟨fb, hr0, hw0⟩ := HG2.out
          have HVD := Lib.hid (show VwA encB fb w2.drew (.slice od n cd) d from HD.out.1.went HB2.out (fun j hj => hw0.new j (.inr hj)))
          have HR0 := Lib.hid hr0
          have HW0 := Lib.hid hw0
          clear hr0 hw0 e5 e6 q0
          go_wp2_with fail
          go_still_tail 10, (by kernel_rfl)
          change wpList _ _ _ _ _ (World.drew _)
          go_wp2_with fail
          refine (badd_any b s.ib fb off _ d fin _ (by exact HR0.out.buf.drew) (by exact HVD.out) HD.out.2.1 hoff).mono ?_
          rw [HD.out.2.2]
          rintro e w3 ⟨rfl, hi3⟩
          have HG3 := Lib.hid (show RGo w w3 fp r { s with ib := s.ib.add off d fin } b from RGo.added (HR0.out.later (Below.refl _ _).drew) (HW0.out.later (Below.refl _ _).drew) hi3)
          clear hi3 HVD HR0 HW0 HG2 e2 e4 z0 z2 z3 z4 HKZ2 HB2
          obtain ⟨er, her⟩ : ∃ er, s.ib.err off n fin = er := ⟨_, rfl⟩
          have HER := Lib.hid her
          rw [her] at HQ4 HS5 ⊢
          clear her
          by_cases e0 : er = 0
          · subst e0
            have eq0 : q = 0 := by rw [← HQ4.out]
            subst eq0
            have HS6 := Lib.hid (show ({ s with ib := s.ib.add off d fin, st := nextSt st (s.ib.add off d fin) } : RS) = s2 from (if_neg (by simp)).symm.trans HS5.out)
            clear HQ4 HS5
            generalize s.ib.add off d fin = ib2 at *
            obtain ⟨c2, c4, _, _, q0⟩ := HG3.out.cells
            replace c2 : w3.cell? ⟨r, 2, none⟩ = some (.int .i64 st) := by rw [← HST.out]; exact c2
            obtain ⟨fb3, h3, hw3⟩ := HG3.out
            have HB3 := Lib.hid h3.buf
            clear h3 hw3 q0
            go_wp2_with fail
            refine (bfinal_q b ib2 fb3 _ (by exact HB3.out)).mono ?_
            rintro e w4 ⟨rfl, x, rfl⟩
            have HG4 := Lib.hid (HG3.out.later (below_drewN (Below.refl _ _) x))
            clear HG3 HB3 c2 c4
            generalize w3.drewN x = w4 at *
            obtain ⟨c2, _, _, _, q0⟩ := HG4.out.cells
            replace c2 : w4.cell? ⟨r, 2, none⟩ = some (.int .i64 st) := by rw [← HST.out]; exact c2
            have q2 := q0 2
            obtain ⟨a, ha⟩ : ∃ a, (if ib2.kn = true ∧ st = 1 then 2 else st) = a := ⟨_, rfl⟩
            have HA := Lib.hid ha
            have ha6 : 1 ≤ a ∧ a ≤ 6 := by rw [← ha]; split <;> omega
            clear ha q0
            obtain ⟨kn, hkn⟩ : ∃ kn, ib2.kn = kn := ⟨_, rfl⟩
            have HKN := Lib.hid hkn
            rw [hkn] at HA ⊢
            clear hkn
            obtain ⟨b1, hb1⟩ : ∃ b1, (kn && decide (st = 1)) = b1 := ⟨_, rfl⟩
            have HB1 := Lib.hid hb1
            have HA2 := Lib.hid (show (if b1 = true then 2 else st) = a from by
              rw [← HA.out, ← hb1]
              simp)
            clear hb1
            go_upto_region 14 with fail
            go_cut [72] (fun v wx => v = .bool b1 ∧ wx = w4)
            case first =>
              cases kn
              · have eb : b1 = false := by rw [← HB1.out]; rfl
                subst eb
                go_wp2_with fail
                go_meet
                case rel => exact ⟨rfl, rfl⟩
              · by_cases h1 : st = 1
                · have eb : b1 = true := by rw [← HB1.out]; simp [h1]
                  subst eb
                  have h1b : ((st : Int) == 1) = true := by simp; omega
                  clear h1
                  go_wp2_with fail
                  go_meet
                  case rel => exact ⟨by first | rfl | simp, by first | rfl | trivial⟩
                · have eb : b1 = false := by rw [← HB1.out]; simp [h1]
                  subst eb
                  have h1b : ((st : Int) == 1) = false := by simp; omega
                  clear h1
                  go_wp2_with fail
                  go_meet
                  case rel => exact ⟨by first | rfl | simp, by first | rfl | trivial⟩
            case rest =>
            obtain ⟨rfl, rfl⟩ := hcut
            generalize wc = w4 at *
            go_upto_if 72 with fail
            go_cut [] (fun wx => RGo w wx fp r { s with ib := ib2, st := a } b)
            case first =>
              cases b1
              · have ea : a = st := HA2.out.symm
                have HGF := Lib.hid (show RGo w w4 fp r { s with ib := ib2, st := a } b from by
                  have := HG4.out
                  rw [show ({ s with ib := ib2, st := a } : RS) = { s with ib := ib2 } from by rw [ea, ← HST.out]]
                  exact this)
                clear ea
                go_wp2_with fail
                go_meet
                case rel => exact HGF.out
              · have ea : a = 2 := HA2.out.symm
                have HGF := Lib.hid (show RGo w (w4.setCell ⟨r, 2, none⟩ (.int .i64 2)) fp r { s with ib := ib2, st := a } b from by
                  rw [ea]
                  exact HG4.out.setSt 2 (by omega) (by omega))
                clear ea
                go_wp2_with fail
                go_meet
                case rel => exact HGF.out
            case rest =>
              have HG5 := Lib.hid (show RGo w wc fp r { s with ib := ib2, st := a } b from hcut)
              clear hcut c2 q2 HG4
              generalize wc = w5 at *
              obtain ⟨c2, c4, _, _, q0⟩ := HG5.out.cells
              replace c2 : w5.cell? ⟨r, 2, none⟩ = some (.int .i64 a) := c2
              obtain ⟨fb5, h5', hw5⟩ := HG5.out
              have HB5 := Lib.hid h5'.buf
              clear h5' hw5 q0
              have HNX := Lib.hid (show nextSt st ib2 = if a = 2 ∧ ib2.whole = true then 3 else a from by
                unfold nextSt
                rw [HKN.out, HA.out])
              by_cases h2 : a = 2
              · subst h2
                go_wp2_with fail
                refine (bwhole_any b ib2 fb5 _ (by exact HB5.out)).mono ?_
                rintro e w6 ⟨rfl, hb6⟩
                have HG6 := Lib.hid (HG5.out.later hb6)
                clear hb6 c2 c4 HG5 HB5
                obtain ⟨c2, _, _, _, q0⟩ := HG6.out.cells
                replace c2 : w6.cell? ⟨r, 2, none⟩ = some (.int .i64 2) := c2
                have q2 := q0 2
                clear q0
                obtain ⟨wh, hwh⟩ : ∃ wh, ib2.whole = wh := ⟨_, rfl⟩
                rw [hwh] at HNX ⊢
                clear hwh
                cases wh
                · have HGF := Lib.hid (show RM w w6 fp r s2 from by
                    rw [← HS6.out, HNX.out]
                    exact HG6.out.rm)
                  go_wp2_with fail
                  go_ret
                  exact ⟨rfl, HGF.out⟩
                · have HGF := Lib.hid (show RM w (w6.setCell ⟨r, 2, none⟩ (.int .i64 3)) fp r s2 from by
                    rw [← HS6.out, HNX.out]
                    exact (HG6.out.setSt 3 (by omega) (by omega)).rm)
                  go_wp2_with fail
                  go_ret
                  exact ⟨rfl, HGF.out⟩
              · have h2b : ((a : Int) == 2) = false := by simp; omega
                have HGF := Lib.hid (show RM w w5 fp r s2 from by
                  rw [← HS6.out, HNX.out, if_neg (fun x => h2 x.1)]
                  exact HG5.out.rm)
                go_wp2_with fail
                go_ret
                exact ⟨rfl, HGF.out⟩
          · have eq0 : q = er := by rw [← HQ4.out]
            have es : s2 = s := by rw [← HS5.out, if_pos e0]
            subst eq0 es
            have e0b : ((q : Int) == 0) = false := by simp; omega
            have HGF := Lib.hid (show RM w w3 fp r s2 from by
              have h9 := HG3.out.rm
              rw [show s2.ib.add off d fin = s2.ib from by unfold IB.add; rw [if_neg (by rw [HD.out.2.2, HER.out]; exact e0)]] at h9
              exact h9)
            go_wp2_with fail
            go_ret
            exact ⟨rfl, HGF.out⟩
    · have eq0 : q = m := by rw [← HQ.out, if_pos m0]
      have es : s2 = s := by rw [← HS2.out, if_pos m0]
      subst eq0 es
      have m0b : ((q : Int) == 0) = false := by simpa using m0
      go_wp2_with fail
      go_ret
      exact ⟨rfl, HG2.out.rm⟩
end Go.Proofs.YtnneoeimgbemfaaGreat

/- DERIVED. Walks of sender's Write, Reset. -/
namespace Go.Proofs.YtnneoeimgbemfaaGreat
open Go.RowKit

def SS.wrN (s : SS) (n : Nat) : Nat × Nat := if s.closed then (0, 24) else if 0 < n ∧ s.os.room = 0 then (0, 26) else (min n s.os.room, 0)
def SS.wr (s : SS) (d : List Nat) : SS := if s.closed then s else { s with os := s.os.write d }
theorem write_none {s : OS} {d : List Nat} (h : s.room = 0) : s.write d = s := by
  unfold OS.write
  rw [h, Nat.min_zero, List.take_zero, List.append_nil]
set_option maxRecDepth 100000 in
set_option maxHeartbeats 1000000 in
theorem swrite_any (r : Nat) (s : SS) (fp : Nat → Prop) (vd : Value) (dd : List Nat) (w : World) {B : Nat} (h : SdAt w r s fp) (hd : Vw encB w B vd dd) (hB : B ≤ w.heap.size) (hby : Bys dd) (hroom : s.os.B.length ≤ s.os.base + 2048) (hl1 : dd.length ≤ 1000000) (hl2 : s.os.B.length ≤ 1000000) :
    Calls Tryz.prog 22 #[.pointer (some ⟨r, 0, none⟩), vd] w fun e w' => e = .returned (.tuple #[.int .i64 (s.wrN dd.length).1, .int .i64 (s.wrN dd.length).2]) ∧ SdM w w' fp r (s.wr dd) := by
  have H := Lib.hid h
  obtain ⟨b, fb, h0, hfp⟩ := h
  have H0 := Lib.hid h0
  have c24 : w.cell? ⟨r, 24, none⟩ = some (.pointer (some ⟨b, 0, none⟩)) := (cell_at h0.blk 24).trans rfl
  have HFP := Lib.hid hfp
  obtain ⟨od, capd, rfl, hc1, hc2⟩ := hd.shape
  have HY := Lib.hid (And.intro hB (And.intro hby (And.intro hroom (And.intro hl1 hl2))))
  obtain ⟨n, hn⟩ : ∃ n, dd.length = n := ⟨_, rfl⟩
  rw [hn] at hc1 hl1 hd ⊢
  have HD := Lib.hid hd
  clear h0 hfp hd hby hroom hl2 hB
  have HN := Lib.hid hn
  clear hn
  obtain ⟨a, c, hac⟩ : ∃ a c, s.wrN n = (a, c) := ⟨_, _, rfl⟩
  rw [hac]
  have HAC := Lib.hid hac
  clear hac
  cases hcl : s.closed
  · have HCL := Lib.hid hcl
    have HW := Lib.hid (show ∀ W W', Below w.heap.size w W → OM W W' fb b (s.os.write dd) → SdM w W' fp r (s.wr dd) from fun W W' hb hm => by
      obtain ⟨fb', h1, h2⟩ := hm
      have hm2 : OM w W' fb b (s.os.write dd) := ⟨fb', h1, h2.first hb⟩
      have e2 : s.wr dd = { s with os := s.os.write dd } := by unfold SS.wr; rw [HCL.out]; rfl
      rw [e2]
      exact sdm_of (s' := { s with os := s.os.write dd }) H0.out HFP.out hm2 (Upd.refl _ _) (H0.out.later hm2) ⟨H0.out.ok.id, H0.out.ok.st, H0.out.ok.lim, H0.out.ok.rs⟩)
    obtain ⟨rm, hrm⟩ : ∃ rm, s.os.room = rm := ⟨_, rfl⟩
    have hrb : rm ≤ 2048 := by
      rw [← hrm]
      unfold OS.room
      split <;> omega
    have HA1 := Lib.hid (show 0 < n ∧ rm = 0 → a = 0 ∧ c = 26 from fun q => by
      have := HAC.out
      unfold SS.wrN at this
      rw [HCL.out, hrm, if_neg (by simp), if_pos q] at this
      cases this
      exact ⟨rfl, rfl⟩)
    have HA2 := Lib.hid (show ¬ (0 < n ∧ rm = 0) → a = min n rm ∧ c = 0 from fun q => by
      have := HAC.out
      unfold SS.wrN at this
      rw [HCL.out, hrm, if_neg (by simp), if_neg q] at this
      cases this
      exact ⟨rfl, rfl⟩)
    have HRM := Lib.hid hrm
    clear hrm hcl HAC
    go_enter Tryz.func22, Tryz.ntmps22
    go_wp2_with fail
    refine (sclosed_q r s fp _ (by exact H.out)).mono ?_
    rw [HCL.out]
    rintro e w1 ⟨rfl, q, rfl⟩
    by_cases hp : 0 < n
    · go_wp2_with fail
      refine (oroom_q b s.os fb _ (by exact (H0.out.buf.drewN q)) (by exact HY.out.2.2.1)).mono ?_
      rw [HRM.out]
      rintro e w1 ⟨rfl, q2, rfl⟩
      by_cases hz : rm = 0
      · subst hz
        obtain ⟨rfl, rfl⟩ := HA1.out ⟨hp, rfl⟩
        go_wp2_with fail
        go_ret2
        refine ⟨rfl, HW.out w _ (Below.refl _ _) ?_⟩
        rw [write_none HRM.out]
        exact (OM.refl H0.out.buf).later (below_drewN (Below.refl _ _) _)
      · obtain ⟨rfl, rfl⟩ := HA2.out (fun x => hz x.2)
        go_wp2_with fail
        refine (owrite_any b s.os fb (.slice od n capd) dd _ (by exact H0.out.buf.drewN (q + q2)) (by exact (HD.out.below (below_drewN (Below.refl _ _) (q + q2)))) (by exact HY.out.1) HY.out.2.1 HY.out.2.2.1 HY.out.2.2.2.1 HY.out.2.2.2.2).mono ?_
        rw [HRM.out, HN.out]
        rintro e w2 ⟨rfl, hm⟩
        have HM := Lib.hid (HW.out _ _ (below_drewN (Below.refl _ _) _) hm)
        clear hm
        go_wp2_with fail
        go_ret2
        exact ⟨rfl, HM.out⟩
    · obtain ⟨rfl, rfl⟩ := HA2.out (fun x => hp x.1)
      go_wp2_with fail
      refine (owrite_any b s.os fb (.slice od n capd) dd _ (by exact H0.out.buf.drewN q) (by exact (HD.out.below (below_drewN (Below.refl _ _) _))) (by exact HY.out.1) HY.out.2.1 HY.out.2.2.1 HY.out.2.2.2.1 HY.out.2.2.2.2).mono ?_
      rw [HRM.out, HN.out]
      rintro e w2 ⟨rfl, hm⟩
      have HM := Lib.hid (HW.out _ _ (below_drewN (Below.refl _ _) _) hm)
      clear hm
      go_wp2_with fail
      go_ret2
      exact ⟨rfl, HM.out⟩
  · obtain ⟨rfl, rfl⟩ : a = 0 ∧ c = 24 := by
      have := HAC.out
      unfold SS.wrN at this
      rw [hcl] at this
      cases this
      exact ⟨rfl, rfl⟩
    have e2 : s.wr dd = s := by unfold SS.wr; rw [hcl]; rfl
    rw [e2]
    go_enter Tryz.func22, Tryz.ntmps22
    go_wp2_with fail
    refine (sclosed_q r s fp _ (by exact H.out)).mono ?_
    rw [hcl]
    rintro e w1 ⟨rfl, q, rfl⟩
    go_wp2_with fail
    go_ret2
    exact ⟨rfl, SdM.drewN (SdM.refl H.out) q⟩
end Go.Proofs.YtnneoeimgbemfaaGreat

/- DERIVED. Walk of sender's Reset (printed by mksndreset.py). -/
namespace Go.Proofs.YtnneoeimgbemfaaGreat
open Go.RowKit

/-- Cells laid over a row from an offset on. -/
def putAll (cs : Array Value) : Nat → List Value → Array Value
  | _, [] => cs
  | o, v :: l => putAll (cs.setIfInBounds o v) (o + 1) l
theorem setCells_at {b : Nat} {t : TypeId} {z : Nat × Nat} : ∀ (vs : List Value) (o : Nat) (w : World) (cs : Array Value), w.heap[b]? = some (.cells cs t z) → (w.setCells b o vs).heap[b]? = some (.cells (putAll cs o vs) t z)
  | [], _, _, _, h => h
  | v :: l, o, w, cs, h => setCells_at l (o + 1) _ _ (set_at h o v)
theorem upd_setCells {F : Nat → Prop} {b : Nat} (hb : F b) : ∀ (vs : List Value) (o : Nat) (a w : World), Upd F a w → Upd F a (w.setCells b o vs)
  | [], _, _, _, h => h
  | v :: l, o, a, w, h => upd_setCells hb l (o + 1) a _ (h.setCell ⟨b, o, none⟩ (.inl hb) v)
theorem there_row {w : World} {b : Nat} {t : TypeId} {cs : Array Value} (h : w.heap[b]? = some (.cells cs t (0, 0))) {o n : Nat} (hn : o + n ≤ cs.size) : w.there b o n := fun j hj => by
  refine ⟨?_, free_at h (o + j)⟩
  rw [cell_at h, Array.getElem?_eq_getElem (by omega)]
  rfl
theorem there_drewN {w : World} {b o n : Nat} (h : w.there b o n) (k : Nat) : (w.drewN k).there b o n := h
theorem put_frame (id st fi lim rq p : Value) (f g : Fr) : putAll ([id, st, fi, lim] ++ encF f ++ [rq, p]).toArray 4 (encF g) = ([id, st, fi, lim] ++ encF g ++ [rq, p]).toArray := by
  simp only [encF, putAll, List.cons_append, List.nil_append, List.append_assoc, List.setIfInBounds_toArray, List.set_cons_zero, List.set_cons_succ]
theorem scells_eq (s : SS) (b : Nat) (f : Fr) : scells s b f = ([Value.int .u64 s.id, .int .i64 s.st, .bool s.os.fi, .int .u64 s.lim] ++ encF f ++ [Value.bool s.rq, .pointer (some ⟨b, 0, none⟩)]).toArray := rfl
def SS.rstN (s : SS) (code : Nat) : Nat := if 4 ≤ s.st then 24 else if 4611686018427387903 < code then 1 else 0
def SS.rst (s : SS) (code : Nat) : SS := if s.rstN code = 0 then { s with st := 5, rs := some (code, s.os.sent), rq := true } else s
set_option maxRecDepth 100000 in
set_option maxHeartbeats 2000000 in
theorem sreset_any (r : Nat) (s : SS) (fp : Nat → Prop) (code : Nat) (w : World) (h : SdAt w r s fp) (hc : code < 18446744073709551616) :
    Calls Tryz.prog 28 #[.pointer (some ⟨r, 0, none⟩), .int .u64 code] w fun e w' => e = .returned (.int .i64 (s.rstN code)) ∧ SdM w w' fp r (s.rst code) := by
  have H := Lib.hid h
  obtain ⟨_, c1, _, _, _⟩ := h.cells
  obtain ⟨b, fb, h0, hfp⟩ := h
  have H0 := Lib.hid h0
  have HFP := Lib.hid hfp
  have f1 := free_at h0.blk 1
  have f23 := free_at h0.blk 23
  have c23 : w.cell? ⟨r, 23, none⟩ = some (.bool s.rq) := (cell_at h0.blk 23).trans rfl
  have hst := h0.ok.st
  have hsent : s.os.sent < 18446744073709551616 := by have := h0.buf.ok.sent; have := h0.buf.ok.len; omega
  clear h0 hfp
  unfold SS.rst
  obtain ⟨a, ha⟩ : ∃ a, s.rstN code = a := ⟨_, rfl⟩
  rw [ha]
  obtain ⟨st, hste⟩ : ∃ st, s.st = st := ⟨_, rfl⟩
  rw [hste] at c1 hst
  have HA := Lib.hid ha
  have HST := Lib.hid hste
  clear ha hste
  by_cases h4 : 4 ≤ st
  · obtain rfl : a = 24 := by have := HA.out; unfold SS.rstN at this; rw [HST.out, if_pos h4] at this; exact this.symm
    have HEND := Lib.hid (SdM.refl H.out)
    go_enter Tryz.func28, Tryz.ntmps28
    go_wp2_with fail
    go_ret
    exact ⟨rfl, HEND.out⟩
  · by_cases hv : 4611686018427387903 < code
    · obtain rfl : a = 1 := by have := HA.out; unfold SS.rstN at this; rw [HST.out, if_neg h4, if_pos hv] at this; exact this.symm
      have HEND := Lib.hid (SdM.refl H.out)
      go_enter Tryz.func28, Tryz.ntmps28
      go_wp2_with fail
      go_ret
      exact ⟨rfl, HEND.out⟩
    · obtain rfl : a = 0 := by have := HA.out; unfold SS.rstN at this; rw [HST.out, if_neg h4, if_neg hv] at this; exact this.symm
      rw [if_pos rfl]
      obtain ⟨s5, hs5⟩ : ∃ s5 : SS, s5 = { s with st := 5, rq := true } := ⟨_, rfl⟩
      have HS5 := Lib.hid hs5
      obtain ⟨id, hid⟩ : ∃ id, s.id = id := ⟨_, rfl⟩
      obtain ⟨sn, hsn⟩ : ∃ sn, s.os.sent = sn := ⟨_, rfl⟩
      rw [hsn] at hsent ⊢
      have HSN0 := Lib.hid hsn
      have HID := Lib.hid hid
      clear hs5 hsn hid
      go_enter Tryz.func28, Tryz.ntmps28
      go_upto_region 6 with fail
      have hu5 : Upd (fun j => j = r) w ((w.setCell ⟨r, 1, none⟩ (.int .i64 5)).setCell ⟨r, 23, none⟩ (.bool true)) := ((Upd.refl (fun j => j = r) w).setCell ⟨r, 1, none⟩ (.inl rfl) _).setCell ⟨r, 23, none⟩ (.inl rfl) _
      have hb5 := set_at (set_at H0.out.blk 1 (.int .i64 5)) 23 (.bool true)
      generalize (w.setCell ⟨r, 1, none⟩ (.int .i64 5)).setCell ⟨r, 23, none⟩ (.bool true) = w5 at *
      have HBK5 := Lib.hid (show w5.heap[r]? = some (.cells (scells s5 b (resetF s.id s.rs)) 91 (0, 0)) from by rw [HS5.out]; exact hb5)
      have HU5 := Lib.hid hu5
      have H5 := Lib.hid (show SdAt w5 r s5 (fun j => j = r ∨ fb j) from by
        refine ⟨b, fb, ⟨?_, ?_, H0.out.ne, ?_⟩, rfl⟩
        · have := HBK5.out
          rw [HS5.out] at this ⊢
          exact this
        · rw [HS5.out]
          exact H0.out.own HU5.out
        · rw [HS5.out]
          exact ⟨H0.out.ok.id, ⟨by show 1 ≤ 5; omega, by show 5 ≤ 6; omega⟩, H0.out.ok.lim, H0.out.ok.rs⟩)
      have HSN := Lib.hid (show s5.os.sent = sn from by rw [HS5.out]; exact HSN0.out)
      have HC0 := Lib.hid (show w5.cell? ⟨r, 0, none⟩ = some (.int .u64 id) from by rw [← HID.out]; exact (cell_at HBK5.out 0).trans (by rw [HS5.out]; rfl))
      have HTH := Lib.hid (there_row HBK5.out (o := 4) (n := 19) (by show 23 ≤ 25; omega))
      have HFIN := Lib.hid (show ∀ k, SdM w ((w5.drewN k).setCells r 4 (encF (resetF id (some (code, sn))))) fp r { s with st := 5, rs := some (code, sn), rq := true } from fun k => by
        refine sdm_two (s' := { s with st := 5, rs := some (code, sn), rq := true }) H0.out HFP.out (HU5.out.drewN k) (OM.refl ((H0.out.own HU5.out).drewN k)) (upd_setCells (F := fun j => j = r) rfl _ _ _ _ (Upd.refl _ _)) ?_ ⟨H0.out.ok.id, ⟨by show 1 ≤ 5; omega, by show 5 ≤ 6; omega⟩, H0.out.ok.lim, fun x hx => ?_⟩
        · have := setCells_at (encF (resetF id (some (code, sn)))) 4 (w5.drewN k) _ HBK5.out
          rw [this, scells_eq, put_frame, scells_eq, HS5.out, ← HID.out]
        · cases hx
          exact ⟨hc, hsent⟩)
      clear hu5 hb5 c1 c23 f1 f23
      refine wp_region_till (S := fun w' => w'.cell? ⟨r, 0, none⟩ = some (.int .u64 id)) [11] (by kernel_rfl) (by exact HC0.out) (fun hHeld => ?_)
      refine wpTill_take0 (i := 0) (oi := ⟨some 20, _, _, _, _, _⟩) (v := ?_) rfl (by kernel_rfl) (fun _ _ _ h => h) (Or.inl ⟨by rfl, ?_⟩) (fun _ => hHeld) ?_
      rotate_left
      · intro w hSw
        (try dsimp only at hSw)
        go_simp
        try with_reducible rfl
      try simp only [Act.put, List.setIfInBounds_toArray, List.set_cons_zero, List.set_cons_succ]
      refine wpTill_take0 (i := 1) (oi := ⟨some 21, _, _, _, _, _⟩) (v := ?_) rfl (by kernel_rfl) (fun _ _ _ h => h) (Or.inl ⟨by rfl, ?_⟩) (fun _ => hHeld) ?_
      rotate_left
      · intro w hSw
        (try dsimp only at hSw)
        go_simp
        try with_reducible rfl
      try simp only [Act.put, List.setIfInBounds_toArray, List.set_cons_zero, List.set_cons_succ]
      refine wpTill_take0 (i := 2) (oi := ⟨some 22, _, _, _, _, _⟩) (v := ?_) rfl (by kernel_rfl) (fun _ _ _ h => h) (Or.inl ⟨by rfl, ?_⟩) (fun _ => hHeld) ?_
      rotate_left
      · intro w hSw
        (try dsimp only at hSw)
        go_simp
        try with_reducible rfl
      try simp only [Act.put, List.setIfInBounds_toArray, List.set_cons_zero, List.set_cons_succ]
      refine wpTill_take0 (i := 3) (oi := ⟨some 23, _, _, _, _, _⟩) (v := ?_) rfl (by kernel_rfl) (fun _ _ _ h => h) (Or.inl ⟨by rfl, ?_⟩) (fun _ => hHeld) ?_
      rotate_left
      · intro w hSw
        (try dsimp only at hSw)
        go_simp
        try with_reducible rfl
      try simp only [Act.put, List.setIfInBounds_toArray, List.set_cons_zero, List.set_cons_succ]
      refine wpTill_take (i := 4) (oi := ⟨some 24, _, _, _, _, _⟩) (v := ?_) rfl (by kernel_rfl) (fun _ _ _ h => h) (Or.inl ⟨by rfl, ?_⟩) (by exact hHeld) ?_
      rotate_left
      · intro w hSw
        (try dsimp only at hSw)
        go_simp
        try with_reducible rfl
      try simp only [Act.put, List.setIfInBounds_toArray, List.set_cons_zero, List.set_cons_succ]
      refine wpTill_take0 (i := 5) (oi := ⟨some 25, _, _, _, _, _⟩) (v := ?_) rfl (by kernel_rfl) (fun _ _ _ h => h) (Or.inl ⟨by rfl, ?_⟩) (fun _ => hHeld) ?_
      rotate_left
      · intro w hSw
        (try dsimp only at hSw)
        go_simp
        try with_reducible rfl
      try simp only [Act.put, List.setIfInBounds_toArray, List.set_cons_zero, List.set_cons_succ]
      refine wpTill_take0 (i := 6) (oi := ⟨some 26, _, _, _, _, _⟩) (v := ?_) rfl (by kernel_rfl) (fun _ _ _ h => h) (Or.inl ⟨by rfl, ?_⟩) (fun _ => hHeld) ?_
      rotate_left
      · intro w hSw
        (try dsimp only at hSw)
        go_simp
        try with_reducible rfl
      try simp only [Act.put, List.setIfInBounds_toArray, List.set_cons_zero, List.set_cons_succ]
      refine wpTill_ready (rs := [7]) (by kernel_rfl) (by simp) ?_
      refine AllTill.cons (o := ⟨some 27, _, _, _, _, _⟩) rfl (fun K hK => ?_) AllTill.nil
      go_simp
      go_at_call 35
      refine (ssent_q r s5 (fun j => j = r ∨ fb j) _ (by exact H5.out.drewN _)).mono ?_
      rw [HSN.out]
      rintro e W8 ⟨rfl, q8, rfl⟩
      go_wp2_with fail
      refine hK.out _ _ (by exact HC0.out) (fun hHeld => ?_)
      clear hK K
      try simp only [Act.put, List.setIfInBounds_toArray, List.set_cons_zero, List.set_cons_succ]
      refine wpTill_take0 (i := 8) (oi := ⟨some 28, _, _, _, _, _⟩) (v := ?_) rfl (by kernel_rfl) (fun _ _ _ h => h) (Or.inl ⟨by rfl, ?_⟩) (fun _ => hHeld) ?_
      rotate_left
      · intro w hSw
        (try dsimp only at hSw)
        go_simp
        try with_reducible rfl
      try simp only [Act.put, List.setIfInBounds_toArray, List.set_cons_zero, List.set_cons_succ]
      refine wpTill_take0 (i := 9) (oi := ⟨some 29, _, _, _, _, _⟩) (v := ?_) rfl (by kernel_rfl) (fun _ _ _ h => h) (Or.inl ⟨by rfl, ?_⟩) (fun _ => hHeld) ?_
      rotate_left
      · intro w hSw
        (try dsimp only at hSw)
        go_simp
        try with_reducible rfl
      try simp only [Act.put, List.setIfInBounds_toArray, List.set_cons_zero, List.set_cons_succ]
      refine wpTill_take0 (i := 10) (oi := ⟨some 30, _, _, _, _, _⟩) (v := ?_) rfl (by kernel_rfl) (fun _ _ _ h => h) (Or.inl ⟨by rfl, ?_⟩) (fun _ => hHeld) ?_
      rotate_left
      · intro w hSw
        (try dsimp only at hSw)
        go_simp
        try with_reducible rfl
      try simp only [Act.put, List.setIfInBounds_toArray, List.set_cons_zero, List.set_cons_succ]
      refine wpTill_ready (rs := [11]) (by kernel_rfl) (by simp) ?_
      refine AllTill.consD (o := ⟨none, _, _, _, _, _⟩) rfl (by kernel_rfl) (fun K hK => ?_) AllTill.nil
      refine wp_store_mid 46 (.tmp 30) (.tmp 28) rfl r 4 _ rfl rfl (by exact HTH.out) (by rw [sizeF]; rfl) (by simp [Value.oneCell']) ?_
      refine hK.out _ _ ?_
      clear hK K
      try simp only [Act.put, List.setIfInBounds_toArray, List.set_cons_zero, List.set_cons_succ]
      refine wpTill_done (by kernel_rfl) ?_ _
      go_wp2_with fail
      go_ret
      exact ⟨rfl, HFIN.out _⟩
end Go.Proofs.YtnneoeimgbemfaaGreat

/- DERIVED. octet's Writer: in memory; Var, vars, Byte, Raw, Text, Done. -/
namespace Go.Proofs.YtnneoeimgbemfaaGreat
open Go.RowKit

structure WrB (w : World) (p : Nat) (bs : List Nat) (v : Value) (og : Option Nat) : Prop where
  blk : w.heap[p]? = some (.cells #[v] 139 (0, 0))
  sl : SlG encB 5 w v og bs
  ne : og ≠ some p
def WrAt (w : World) (p : Nat) (bs : List Nat) (fp : Nat → Prop) : Prop := ∃ v og, WrB w p bs v og ∧ fp = fun j => j = p ∨ og = some j
theorem WrAt.lt {fp : Nat → Prop} {w : World} {p : Nat} {bs : List Nat} (h : WrAt w p bs fp) : fp p ∧ ∀ k, fp k → k < w.heap.size := by
  obtain ⟨v, og, h, rfl⟩ := h
  refine ⟨.inl rfl, ?_⟩
  rintro k (rfl | hk)
  · exact heap_lt h.blk
  · exact h.sl.lt k hk
theorem WrAt.keeps {F fp : Nat → Prop} {w w' : World} {p : Nat} {bs : List Nat} (h : WrAt w p bs fp) (hu : Upd F w w') (hF : ∀ k, fp k → ¬ F k) : WrAt w' p bs fp := by
  obtain ⟨v, og, h, rfl⟩ := h
  exact ⟨v, og, ⟨hu.keeps h.blk (hF p (.inl rfl)), h.sl.keeps hu (fun g hg => hF g (.inr hg)), h.ne⟩, rfl⟩
theorem WrAt.below {fp : Nat → Prop} {w w' : World} {p : Nat} {bs : List Nat} (h : WrAt w p bs fp) (hb : Below w.heap.size w w') : WrAt w' p bs fp :=
  h.keeps (Upd.below hb) (fun k hk => by have := h.lt.2 k hk; omega)
theorem WrB.app {w w1 W1 : World} {p : Nat} {bs zs : List Nat} {v v2 : Value} {og og2 : Option Nat} (h0 : Below w.heap.size w w1) (h : WrB w1 p bs v og) (hs2 : SlG encB 5 W1 v2 og2 zs)
    (ho2 : og2 = og ∨ ∃ g, og2 = some g ∧ w1.heap.size ≤ g) (hu2 : Upd (fun j => og = some j) w1 W1) :
    ∃ fp', WrAt (W1.setCell ⟨p, 0, none⟩ v2) p zs fp' ∧ Went (fun j => j = p ∨ og = some j) fp' w (W1.setCell ⟨p, 0, none⟩ v2) := by
  have hp1 := heap_lt h.blk
  have hb := hu2.keeps h.blk (fun q => h.ne q)
  have hne : og2 ≠ some p := by
    rcases ho2 with rfl | ⟨g, rfl, hg⟩
    · exact h.ne
    · intro e
      cases e
      omega
  refine ⟨_, ⟨v2, og2, ⟨(set_at hb 0 v2).trans rfl, hs2.keeps ((Upd.refl (fun j => j = p) W1).setCell ⟨p, 0, none⟩ (.inl rfl) v2) (fun g hg e => hne (by rw [hg, e])), hne⟩, rfl⟩, Went.first h0 ⟨(hu2.mono (fun j _ q => .inr q)).setCell ⟨p, 0, none⟩ (.inl (.inl rfl)) v2, ?_⟩⟩
  rintro k (rfl | hk)
  · exact .inl (.inl rfl)
  · rcases ho2 with rfl | ⟨g, rfl, hg⟩
    · exact .inl (.inr hk)
    · cases hk
      exact .inr hg
set_option maxRecDepth 100000 in
set_option maxHeartbeats 1000000 in
theorem wnew_q (w : World) : Calls Tryz.prog 77 #[] w fun e w' => e = .returned (.pointer (some ⟨w.heap.size, 0, none⟩)) ∧ WrAt w' w.heap.size [] (fun j => j = w.heap.size ∨ (none : Option Nat) = some j) ∧ Below w.heap.size w w' := by
  go_enter Tryz.func77, Tryz.ntmps77
  go_wp2_with fail
  go_ret
  refine ⟨rfl, ⟨.slice none 0 0, none, ⟨(alloc_at _ _).trans rfl, SlG.nil _, by simp⟩, rfl⟩, (Below.refl _ _).alloc (Nat.le_refl _) _⟩
set_option maxRecDepth 100000 in
set_option maxHeartbeats 1000000 in
theorem wvar_any (p : Nat) (bs : List Nat) (fp : Nat → Prop) (n : Nat) (w : World) (h : WrAt w p bs fp) (hn : n < 18446744073709551616) (hl : bs.length ≤ 1000000) :
    Calls Tryz.prog 90 #[.pointer (some ⟨p, 0, none⟩), .int .u64 n] w fun e w' => e = .returned (.bool (decide (0 < vsize n))) ∧ ∃ fp', WrAt w' p (bs ++ varB n) fp' ∧ Went fp fp' w w' := by
  obtain ⟨i0, hi0, hz0, hz1, hz2'⟩ := info_parts infoB
  obtain ⟨v, og, h, rfl⟩ := h
  have H := Lib.hid h
  clear h
  go_enter Tryz.func90, Tryz.ntmps90
  go_wp2_with fail
  refine (putvar_any n _ hn).mono ?_
  rintro e w1 ⟨v1, og1, rfl, hs1, hg1, hb1⟩
  have hvl : (varB n).length ≤ 8 := by rw [varB_len]; exact vsize_le n
  have H1 := Lib.hid (show WrB w1 p bs v og from ⟨below_keeps hb1 H.out.blk (heap_lt H.out.blk), H.out.sl.below hb1, H.out.ne⟩)
  have HS1 := Lib.hid hs1
  have HB := Lib.hid hb1
  have c0 : w1.cell? ⟨p, 0, none⟩ = some v := (cell_at H1.out.blk 0).trans rfl
  clear hs1 hg1 hb1
  go_wp2_with (refine wpList_pushV encB_len encB_one Tryz.underlying31 hi0 hz1 hz0 zeroB rfl (.tmp 16) (.tmp 17) rfl (by exact H1.out.sl) (by exact HS1.out.vw) rfl rfl (by rw [hz2']; omega) (by omega) ?_)
  intro W1 v2 og2 hs2 ho2 hu2
  have e1 : W1.cell? ⟨p, 0, none⟩ = some v := (cell_at (hu2.keeps H1.out.blk (fun q => H1.out.ne q)) 0).trans rfl
  have f1 := free_at (hu2.keeps H1.out.blk (fun q => H1.out.ne q)) 0
  have HF := Lib.hid (H1.out.app HB.out hs2 ho2 hu2)
  obtain ⟨oa2, cap2, rfl, _, _⟩ := hs2.shape
  obtain ⟨L2, hL2⟩ : ∃ L2, (bs ++ varB n).length = L2 := ⟨_, rfl⟩
  rw [hL2] at HF ⊢
  clear hs2 ho2 hu2 c0 hL2
  go_wp2_with fail
  go_ret
  exact ⟨rfl, HF.out⟩
set_option maxRecDepth 100000 in
set_option maxHeartbeats 1000000 in
theorem wbyte_any (p : Nat) (bs : List Nat) (fp : Nat → Prop) (c : Nat) (w : World) (h : WrAt w p bs fp) (hl : bs.length ≤ 1000000) :
    Calls Tryz.prog 95 #[.pointer (some ⟨p, 0, none⟩), .int .u8 c] w fun e w' => e = .returned (.tuple #[]) ∧ ∃ fp', WrAt w' p (bs ++ [c]) fp' ∧ Went fp fp' w w' := by
  obtain ⟨i0, hi0, hz0, hz1, hz2'⟩ := info_parts infoB
  obtain ⟨v, og, h, rfl⟩ := h
  have H := Lib.hid h
  have c0 : w.cell? ⟨p, 0, none⟩ = some v := (cell_at H.out.blk 0).trans rfl
  have hba := (Below.refl w.heap.size w).alloc (Nat.le_refl _) (.cells #[.int .u8 (c : Int)] 5)
  have H1 := Lib.hid (show WrB (w.alloc (.cells #[.int .u8 (c : Int)] 5)) p bs v og from ⟨below_keeps hba H.out.blk (heap_lt H.out.blk), H.out.sl.below hba, H.out.ne⟩)
  have HB := Lib.hid hba
  clear h hba
  go_enter Tryz.func95, Tryz.ntmps95
  go_wp2_with (refine wpList_pushN encB_len encB_one Tryz.underlying31 hi0 hz1 hz0 zeroB rfl (.tmp 8) (.tmp 10) rfl (by exact H1.out.sl) [c] (by exact Src.block (alloc_at _ _) rfl) rfl rfl rfl (by simp) (by rw [hz2']; simp; omega) (by simp; omega) ?_)
  intro W1 v2 og2 hs2 ho2 hu2
  have e1 : W1.cell? ⟨p, 0, none⟩ = some v := (cell_at (hu2.keeps H1.out.blk (fun q => H1.out.ne q)) 0).trans rfl
  have f1 := free_at (hu2.keeps H1.out.blk (fun q => H1.out.ne q)) 0
  have HF := Lib.hid (H1.out.app HB.out hs2 (ho2.imp id (fun ⟨g, q1, q2⟩ => ⟨g, q1, by simpa using q2⟩)) hu2)
  obtain ⟨oa2, cap2, rfl, _, _⟩ := hs2.shape
  obtain ⟨L2, hL2⟩ : ∃ L2, (bs ++ [c]).length = L2 := ⟨_, rfl⟩
  rw [hL2] at HF ⊢
  clear hs2 ho2 hu2 c0 hL2
  go_wp2_with fail
  refine bodyPost_end (results_none rfl _ _ _) rfl ?_
  exact ⟨rfl, HF.out⟩
set_option maxRecDepth 100000 in
set_option maxHeartbeats 1000000 in
theorem wraw_any (p : Nat) (bs : List Nat) (fp : Nat → Prop) (u : Value) (B : Nat) (zs : List Nat) (w : World) (h : WrAt w p bs fp) (hz : Vw encB w B u zs) (hl : bs.length ≤ 1000000) (hl2 : zs.length ≤ 1000000) :
    Calls Tryz.prog 96 #[.pointer (some ⟨p, 0, none⟩), u] w fun e w' => e = .returned (.tuple #[]) ∧ ∃ fp', WrAt w' p (bs ++ zs) fp' ∧ Went fp fp' w w' := by
  obtain ⟨i0, hi0, hz0, hz1, hz2'⟩ := info_parts infoB
  obtain ⟨v, og, h, rfl⟩ := h
  have H := Lib.hid h
  have HZ := Lib.hid hz
  have c0 : w.cell? ⟨p, 0, none⟩ = some v := (cell_at H.out.blk 0).trans rfl
  clear h hz
  go_enter Tryz.func96, Tryz.ntmps96
  go_wp2_with (refine wpList_pushV encB_len encB_one Tryz.underlying31 hi0 hz1 hz0 zeroB rfl (.tmp 8) (.tmp 9) rfl (by exact H.out.sl) (by exact HZ.out) rfl rfl (by rw [hz2']; omega) (by omega) ?_)
  intro W1 v2 og2 hs2 ho2 hu2
  have e1 : W1.cell? ⟨p, 0, none⟩ = some v := (cell_at (hu2.keeps H.out.blk (fun q => H.out.ne q)) 0).trans rfl
  have f1 := free_at (hu2.keeps H.out.blk (fun q => H.out.ne q)) 0
  have HF := Lib.hid (H.out.app (Below.refl _ _) hs2 ho2 hu2)
  obtain ⟨oa2, cap2, rfl, _, _⟩ := hs2.shape
  obtain ⟨L2, hL2⟩ : ∃ L2, (bs ++ zs).length = L2 := ⟨_, rfl⟩
  rw [hL2] at HF ⊢
  clear hs2 ho2 hu2 c0 hL2
  go_wp2_with fail
  refine bodyPost_end (results_none rfl _ _ _) rfl ?_
  exact ⟨rfl, HF.out⟩
end Go.Proofs.YtnneoeimgbemfaaGreat

/- DERIVED. octet's Text, Done; frame's vars, kind. -/
namespace Go.Proofs.YtnneoeimgbemfaaGreat
open Go.RowKit

theorem VwA.wentU {α : Type} {enc : α → List Value} {fp fp' : Nat → Prop} {w w' : World} {v : Value} {xs : List α} (h : VwA enc fp w v xs) (hw : Went fp fp' w w') : VwA enc fp' w' v xs := by
  have h2 := h.upd hw.upd (fun _ q => q)
  obtain ⟨oa, cap, h1, h2', h3, h4⟩ := h
  obtain ⟨oa', cap', k1, k2, k3, k4⟩ := h2
  subst h1
  cases k1
  refine ⟨_, _, rfl, h2', h3, ?_⟩
  rcases h4 with h4 | ⟨b, off, rfl, h5, h6, h7⟩
  · exact .inl h4
  · rcases k4 with k4 | ⟨b', off', e, k5, k6, k7⟩
    · exact .inl k4
    · cases e
      refine .inr ⟨b, off, rfl, k5, fun q => ?_, k7⟩
      rcases hw.new b q with x | x
      · exact h6 x
      · omega
def varsB (l : List Nat) : List Nat := l.flatMap varB
theorem varsB_len (l : List Nat) : (varsB l).length ≤ 8 * l.length := by
  unfold varsB
  induction l with
  | nil => simp
  | cons a l ih =>
    have := vsize_le a
    simp only [List.flatMap_cons, List.length_append, List.length_cons, varB_len]
    omega
set_option maxRecDepth 100000 in
set_option maxHeartbeats 1000000 in
theorem wvars_any (p : Nat) (bs : List Nat) (fp : Nat → Prop) (v : Value) (l : List Nat) (w : World) (h : WrAt w p bs fp) (hv : VwA encU fp w v l) (hl : ∀ n ∈ l, n < 18446744073709551616) (hb : bs.length ≤ 100000) (hll : l.length ≤ 1000) :
    Calls Tryz.prog 93 #[.pointer (some ⟨p, 0, none⟩), v] w fun e w' => e = .returned (.tuple #[]) ∧ ∃ fp', WrAt w' p (bs ++ varsB l) fp' ∧ Went fp fp' w w' := by
  obtain ⟨oa, cap, rfl, h1, h2⟩ := hv.shape
  have H := Lib.hid h
  have HV := Lib.hid hv
  generalize hn : l.length = len at *
  have HN := Lib.hid hn
  clear h hn hv
  go_enter Tryz.func93, Tryz.ntmps93
  go_wp2_with fail
  go_loopw [8] (fun i wr => ∃ (k : Nat) (fp' : Nat → Prop), i = .int .i64 k ∧ k ≤ len ∧ WrAt wr p (bs ++ varsB (l.take k)) fp' ∧ Went fp fp' w wr) (fun i _ => len - (intOf i).toNat)
  case atStart => exact ⟨0, fp, rfl, by omega, by simpa [varsB] using H.out, Went.refl _ _⟩
  case round =>
    obtain ⟨k, fp', rfl, hk, hw, hwt⟩ := hrel
    have HW := Lib.hid hw
    have HT := Lib.hid hwt
    clear hw hwt
    by_cases hlt : k < len
    · obtain ⟨x, hx⟩ : ∃ x, l[k]? = some x := ⟨_, List.getElem?_eq_getElem (by rw [HN.out]; exact hlt)⟩
      obtain ⟨b, off, rfl, _, c0⟩ := (HV.out.wentU HT.out).vw.num64 hx
      have hx2 := hl x (List.mem_of_getElem? hx)
      have hst : varsB (l.take (k + 1)) = varsB (l.take k) ++ varB x := by
        rw [List.take_add_one, hx, varsB, varsB, List.flatMap_append]
        simp
      have hlv := varsB_len (l.take k)
      rw [List.length_take] at hlv
      have HST := Lib.hid hst
      clear hx hst
      go_wp2_with fail
      refine (wvar_any p _ fp' x _ (by exact HW.out) hx2 (by rw [List.length_append]; omega)).mono ?_
      rintro e w3 ⟨rfl, fp3, hw3, ht3⟩
      have HW3 := Lib.hid hw3
      have HT3 := Lib.hid ht3
      clear hw3 ht3 c0
      go_wp2_with fail
      go_roundw
      case rel => exact ⟨k + 1, fp3, by go_num, by omega, by rw [HST.out, ← List.append_assoc]; exact HW3.out, HT.out.trans HT3.out⟩
      case measure => simp [intOf]; omega
    · obtain rfl : k = len := by omega
      have hlk : l.take k = l := List.take_of_length_le (by rw [HN.out]; omega)
      go_wp2_with fail
      refine bodyPost_end (results_none rfl _ _ _) rfl ?_
      rw [hlk] at HW
      exact ⟨rfl, fp', HW.out, HT.out⟩
set_option maxRecDepth 100000 in
set_option maxHeartbeats 1000000 in
theorem wtext_any (p : Nat) (bs : List Nat) (fp : Nat → Prop) (u : Value) (zs : List Nat) (w : World) (h : WrAt w p bs fp) (hz : VwA encB fp w u zs) (hl : bs.length ≤ 100000) (hl2 : zs.length ≤ 100000) :
    Calls Tryz.prog 94 #[.pointer (some ⟨p, 0, none⟩), u] w fun e w' => e = .returned (.tuple #[]) ∧ ∃ fp', WrAt w' p (bs ++ varB zs.length ++ zs) fp' ∧ Went fp fp' w w' := by
  obtain ⟨oa, cap, rfl, h1, h2⟩ := hz.shape
  have H := Lib.hid h
  have HZ := Lib.hid hz
  clear h hz
  have hvl : (varB zs.length).length ≤ 8 := by rw [varB_len]; exact vsize_le _
  obtain ⟨len, hlen⟩ : ∃ len, zs.length = len := ⟨_, rfl⟩
  rw [hlen] at h1 hl2 hvl ⊢
  rw [hlen] at HZ
  have HLN := Lib.hid hlen
  clear hlen
  go_enter Tryz.func94, Tryz.ntmps94
  go_wp2_with fail
  refine (wvar_any p bs fp len _ (by exact H.out) (by omega) (by omega)).mono ?_
  rintro e w1 ⟨rfl, fp1, hw1, ht1⟩
  have HW1 := Lib.hid hw1
  have HT1 := Lib.hid ht1
  clear hw1 ht1
  go_wp2_with fail
  refine (wraw_any p _ fp1 _ _ zs _ (by exact HW1.out) (by exact (HZ.out.wentU HT1.out).vw) (by rw [List.length_append]; omega) (by rw [HLN.out]; omega)).mono ?_
  rintro e w2 ⟨rfl, fp2, hw2, ht2⟩
  have HW2 := Lib.hid hw2
  have HT2 := Lib.hid (HT1.out.trans ht2)
  clear hw2 ht2
  go_wp2_with fail
  refine bodyPost_end (results_none rfl _ _ _) rfl ?_
  exact ⟨rfl, fp2, HW2.out, HT2.out⟩
end Go.Proofs.YtnneoeimgbemfaaGreat
