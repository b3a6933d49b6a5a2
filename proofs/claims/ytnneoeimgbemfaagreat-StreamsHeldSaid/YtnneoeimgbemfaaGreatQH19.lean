/- DERIVED. frame's kind, put (of the kinds with numbers, and of a Stream). -/
import Derived.Deep.DeepCutAuto
import Derived.Laws.Rows
import Derived.OwnWalk
import Derived.Deep.CutBlock
import Derived.Deep.DeepMust
import Derived.Deep.RegionHeld3
import Derived.Deep.RegionWith
import Derived.Lib.Overlaps
import Derived.Test.YtnneoeimgbemfaaGreatQH4
import Derived.Test.YtnneoeimgbemfaaGreatQH15
import Derived.Test.YtnneoeimgbemfaaGreatQH18
set_option linter.all false
namespace Go.Proofs.YtnneoeimgbemfaaGreat
open Go.RowKit

def kindN (f : Fr) : Nat := if f.kd = 8 then 10 + (if 0 < f.off then 4 else 0) + (if f.fin then 1 else 0) else f.kd.toNat
theorem or82 : bits .or .u64 8 2 = 10 := by decide
theorem or104 : bits .or .u64 10 4 = 14 := by decide
theorem or101 : bits .or .u64 10 1 = 11 := by decide
theorem or141 : bits .or .u64 14 1 = 15 := by decide
theorem kindN_lt {f : Fr} (h : 0 ≤ f.kd ∧ f.kd ≤ 30) : kindN f ≤ 30 := by
  unfold kindN
  split
  · split <;> split <;> omega
  · omega
set_option maxRecDepth 100000 in
set_option maxHeartbeats 1000000 in
theorem kind_q (f : Fr) (w : World) (hk : 0 ≤ f.kd ∧ f.kd ≤ 30) : Calls Tryz.prog 91 #[.agg (encF f).toArray] w fun e w' => e = .returned (.int .u64 (kindN f)) ∧ Below w.heap.size w w' := by
  obtain ⟨kd, sid, off, vd, fin, lim, code, fnl, seq, dly, vr, c0, c1, c2, c3, c4, c5, c6, c7⟩ := f
  simp only at hk
  simp only [encF]
  have o1 := or82
  have o2 := or104
  have o3 := or101
  have o4 := or141
  by_cases h8 : kd = 8
  · subst h8
    by_cases ho : off = 0
    · subst ho
      cases fin
      · obtain ⟨k, hk, hk2⟩ : ∃ k, kindN ⟨8, sid, 0, vd, false, lim, code, fnl, seq, dly, vr, c0, c1, c2, c3, c4, c5, c6, c7⟩ = k ∧ k = 10 := ⟨_, rfl, rfl⟩
        rw [hk]
        subst hk2
        go_enter Tryz.func91, Tryz.ntmps91
        go_wp2_with fail
        go_ret
        exact ⟨rfl, (Below.refl _ _).alloc (Nat.le_refl _) _⟩
      · obtain ⟨k, hk, hk2⟩ : ∃ k, kindN ⟨8, sid, 0, vd, true, lim, code, fnl, seq, dly, vr, c0, c1, c2, c3, c4, c5, c6, c7⟩ = k ∧ k = 11 := ⟨_, rfl, rfl⟩
        rw [hk]
        subst hk2
        go_enter Tryz.func91, Tryz.ntmps91
        go_wp2_with fail
        go_ret
        exact ⟨rfl, (Below.refl _ _).alloc (Nat.le_refl _) _⟩
    · have hop : 0 < off := by omega
      cases fin
      · obtain ⟨k, hk, hk2⟩ : ∃ k, kindN ⟨8, sid, off, vd, false, lim, code, fnl, seq, dly, vr, c0, c1, c2, c3, c4, c5, c6, c7⟩ = k ∧ k = 14 := ⟨_, rfl, by unfold kindN; rw [if_pos rfl, if_pos hop]; rfl⟩
        rw [hk]
        subst hk2
        go_enter Tryz.func91, Tryz.ntmps91
        go_wp2_with fail
        go_ret
        exact ⟨rfl, (Below.refl _ _).alloc (Nat.le_refl _) _⟩
      · obtain ⟨k, hk, hk2⟩ : ∃ k, kindN ⟨8, sid, off, vd, true, lim, code, fnl, seq, dly, vr, c0, c1, c2, c3, c4, c5, c6, c7⟩ = k ∧ k = 15 := ⟨_, rfl, by unfold kindN; rw [if_pos rfl, if_pos hop]; rfl⟩
        rw [hk]
        subst hk2
        go_enter Tryz.func91, Tryz.ntmps91
        go_wp2_with fail
        go_ret
        exact ⟨rfl, (Below.refl _ _).alloc (Nat.le_refl _) _⟩
  · have hkb : (kd == 8) = false := by simpa using h8
    obtain ⟨k, hk1, hk2⟩ : ∃ k : Nat, kindN ⟨kd, sid, off, vd, fin, lim, code, fnl, seq, dly, vr, c0, c1, c2, c3, c4, c5, c6, c7⟩ = k ∧ kd = (k : Int) := ⟨kd.toNat, by unfold kindN; rw [if_neg h8], by omega⟩
    rw [hk1]
    subst hk2
    have hkw : IntKind.u64.wrap (k : Int) = k := IntWalk.u64_in _ (by omega)
    go_enter Tryz.func91, Tryz.ntmps91
    go_wp2_with fail
    go_ret
    exact ⟨rfl, (Below.refl _ _).alloc (Nat.le_refl _) _⟩
end Go.Proofs.YtnneoeimgbemfaaGreat

/- DERIVED. frame's put of the kinds that have numbers alone (printed by mkput.py). -/
namespace Go.Proofs.YtnneoeimgbemfaaGreat
open Go.RowKit

theorem lit_vwaU {fp : Nat → Prop} {w : World} {g n c : Nat} {cs : Array Value} {t : TypeId} {z : Nat × Nat} {xs : List Nat} (h : w.heap[g]? = some (.cells cs t z)) (hl : cs.toList = flat encU xs) (hf : ¬ fp g) (hn : n = xs.length) (hc : n ≤ c) (hc2 : c ≤ 9223372036854775807) :
    VwA encU fp w (.slice (some ⟨g, 0, none⟩) n c) xs := by
  subst hn
  refine ⟨_, c, rfl, hc, hc2, .inr ⟨g, 0, rfl, heap_lt h, hf, fun j u hj => ?_⟩⟩
  rw [Nat.zero_add, cell_at h, ← hl] at *
  rw [← hj, Array.getElem?_toList]
/-- A writer's blocks, a frame in a box beside it. -/
structure PutB (w : World) (p : Nat) (bs : List Nat) (fp fp' : Nat → Prop) (w' : World) (z : Nat) (cs : Array Value) : Prop where
  wr : WrAt w' p bs fp'
  wt : Went fp fp' w w'
  bx : w'.heap[z]? = some (.cells cs 46 (0, 0))
  nz : ¬ fp' z
theorem PutB.below {w w' w2 : World} {p z : Nat} {bs : List Nat} {fp fp' : Nat → Prop} {cs : Array Value} (h : PutB w p bs fp fp' w' z cs) (hb : Below w'.heap.size w' w2) : PutB w p bs fp fp' w2 z cs :=
  ⟨h.wr.below hb, h.wt.later hb, below_keeps hb h.bx (heap_lt h.bx), h.nz⟩
theorem PutB.went {w w' w2 : World} {p z : Nat} {bs bs2 : List Nat} {fp fp' fp2 : Nat → Prop} {cs : Array Value} (h : PutB w p bs fp fp' w' z cs) (hr : WrAt w2 p bs2 fp2) (ht : Went fp' fp2 w' w2) : PutB w p bs2 fp fp2 w2 z cs :=
  ⟨hr, h.wt.trans ht, ht.upd.keeps h.bx h.nz, fun q => by
    rcases ht.new z q with x | x
    · exact h.nz x
    · have := heap_lt h.bx
      omega⟩
theorem PutB.start {w w1 : World} {p z : Nat} {bs : List Nat} {fp : Nat → Prop} {cs : Array Value} (h : WrAt w p bs fp) (hz : w.heap.size ≤ z) (hb : Below w.heap.size w w1) (hk : w1.heap[z]? = some (.cells cs 46 (0, 0))) : PutB w p bs fp fp w1 z cs :=
  ⟨h.below hb, (Went.refl _ _).later hb, hk, fun q => by have := h.lt.2 z q; omega⟩
set_option maxRecDepth 100000 in
set_option maxHeartbeats 1000000 in
theorem put_4 (p : Nat) (bs : List Nat) (fp : Nat → Prop) (f : Fr) (w : World) (h : WrAt w p bs fp) (hk : f.kd = 4) (hf : FrOk f) (hq : f.seq < 18446744073709551616) (hb : bs.length ≤ 10000) :
    Calls Tryz.prog 79 #[.pointer (some ⟨p, 0, none⟩), .agg (encF f).toArray] w fun e w' => e = .returned (.tuple #[]) ∧ ∃ fp', WrAt w' p (bs ++ (varB 4 ++ varsB [f.sid, f.code, f.fnl])) fp' ∧ Went fp fp' w w' := by
  have HKN := Lib.hid (kind_q f)
  have hkn : kindN f = 4 := by unfold kindN; rw [if_neg (by rw [hk]; omega), hk]; rfl
  rw [hkn] at HKN
  obtain ⟨kd, sid, off, vd, fin, lim, code, fnl, seq, dly, vr, c0, c1, c2, c3, c4, c5, c6, c7⟩ := f
  obtain rfl : kd = 4 := hk
  have hsid := hf.sid
  have hlim := hf.lim
  have hcode := hf.code
  have hfnl := hf.fnl
  simp only at hsid hlim hcode hfnl hq
  simp only [encF] at HKN ⊢
  have H := Lib.hid h
  clear h hf
  have hv8 : (varB 4).length = 1 := by rw [varB_len]; rfl
  go_enter Tryz.func79, Tryz.ntmps79
  go_upto_region 0 with fail
  go_cut [3] (fun v wx => ∃ z, v = .pointer (some ⟨z, 0, none⟩) ∧ PutB w p bs fp fp wx z #[.int .i64 4, .int .u64 sid, .int .u64 off, vd, .bool fin, .int .u64 lim, .int .u64 code, .int .u64 fnl, .int .u64 seq, .int .u64 dly, vr,
    .int .u8 c0, .int .u8 c1, .int .u8 c2, .int .u8 c3, .int .u8 c4, .int .u8 c5, .int .u8 c6, .int .u8 c7])
  case first =>
    go_wp2_with fail
    go_meet
    case rel => exact ⟨_, rfl, PutB.start H.out (Nat.le_refl _) ((Below.refl _ _).alloc (Nat.le_refl _) _) (alloc_at _ _)⟩
  case rest =>
    obtain ⟨z, rfl, hpb⟩ := hcut
    generalize wc = w1 at *
    have HP := Lib.hid hpb
    clear hpb H
    go_wp2_with (refine wpList_load_row rfl 46 (.tmp 3) rfl z rfl 46 _ (0, 0) _ (by exact HP.out.bx) Tryz.underlying46 rfl (by rw [sizeF]; rfl) ?_)
    refine (HKN.out _ ⟨by simp, by simp⟩).mono ?_
    rintro e w2 ⟨rfl, hb2⟩
    have HP2 := Lib.hid (HP.out.below hb2)
    clear hb2 HP HKN
    go_wp2_with fail
    refine (wvar_any p bs fp 4 _ (by exact HP2.out.wr) (by omega) (by omega)).mono ?_
    rintro e w3 ⟨rfl, fp3, hw3, ht3⟩
    have HP3 := Lib.hid (HP2.out.went hw3 ht3)
    clear hw3 ht3 HP2
    have z0 : w3.cell? ⟨z, 0, none⟩ = some (.int .i64 4) := (cell_at HP3.out.bx 0).trans rfl
    have z1 : w3.cell? ⟨z, 1, none⟩ = some (.int .u64 sid) := (cell_at HP3.out.bx 1).trans rfl
    have z6 : w3.cell? ⟨z, 6, none⟩ = some (.int .u64 code) := (cell_at HP3.out.bx 6).trans rfl
    have z7 : w3.cell? ⟨z, 7, none⟩ = some (.int .u64 fnl) := (cell_at HP3.out.bx 7).trans rfl
    go_wp2_with fail
    have HV := Lib.hid (lit_vwaU (fp := fp3) (w := w3.alloc (.cells #[.int .u64 sid, .int .u64 code, .int .u64 fnl] 27)) (n := 3) (c := 3) (xs := [sid, code, fnl]) (alloc_at _ _) rfl (fun q => by have := HP3.out.wr.lt.2 _ q; omega) rfl (by omega) (by omega))
    refine (wvars_any p (bs ++ varB 4) fp3 _ [sid, code, fnl] _ (by exact (HP3.out.below ((Below.refl _ _).alloc (Nat.le_refl _) _)).wr) (by exact HV.out) (by simp; omega) (by rw [List.length_append]; omega) (by simp)).mono ?_
    rintro e w4 ⟨rfl, fp4, hw4, ht4⟩
    have HP4 := Lib.hid ((HP3.out.below ((Below.refl _ _).alloc (Nat.le_refl _) _)).went hw4 ht4)
    clear hw4 ht4 HP3 HV
    go_wp2_with fail
    refine bodyPost_end (results_none rfl _ _ _) rfl ?_
    exact ⟨rfl, fp4, by rw [← List.append_assoc]; exact HP4.out.wr, HP4.out.wt⟩
set_option maxRecDepth 100000 in
set_option maxHeartbeats 1000000 in
theorem put_5 (p : Nat) (bs : List Nat) (fp : Nat → Prop) (f : Fr) (w : World) (h : WrAt w p bs fp) (hk : f.kd = 5) (hf : FrOk f) (hq : f.seq < 18446744073709551616) (hb : bs.length ≤ 10000) :
    Calls Tryz.prog 79 #[.pointer (some ⟨p, 0, none⟩), .agg (encF f).toArray] w fun e w' => e = .returned (.tuple #[]) ∧ ∃ fp', WrAt w' p (bs ++ (varB 5 ++ varsB [f.sid, f.code])) fp' ∧ Went fp fp' w w' := by
  have HKN := Lib.hid (kind_q f)
  have hkn : kindN f = 5 := by unfold kindN; rw [if_neg (by rw [hk]; omega), hk]; rfl
  rw [hkn] at HKN
  obtain ⟨kd, sid, off, vd, fin, lim, code, fnl, seq, dly, vr, c0, c1, c2, c3, c4, c5, c6, c7⟩ := f
  obtain rfl : kd = 5 := hk
  have hsid := hf.sid
  have hlim := hf.lim
  have hcode := hf.code
  have hfnl := hf.fnl
  simp only at hsid hlim hcode hfnl hq
  simp only [encF] at HKN ⊢
  have H := Lib.hid h
  clear h hf
  have hv8 : (varB 5).length = 1 := by rw [varB_len]; rfl
  go_enter Tryz.func79, Tryz.ntmps79
  go_upto_region 0 with fail
  go_cut [3] (fun v wx => ∃ z, v = .pointer (some ⟨z, 0, none⟩) ∧ PutB w p bs fp fp wx z #[.int .i64 5, .int .u64 sid, .int .u64 off, vd, .bool fin, .int .u64 lim, .int .u64 code, .int .u64 fnl, .int .u64 seq, .int .u64 dly, vr,
    .int .u8 c0, .int .u8 c1, .int .u8 c2, .int .u8 c3, .int .u8 c4, .int .u8 c5, .int .u8 c6, .int .u8 c7])
  case first =>
    go_wp2_with fail
    go_meet
    case rel => exact ⟨_, rfl, PutB.start H.out (Nat.le_refl _) ((Below.refl _ _).alloc (Nat.le_refl _) _) (alloc_at _ _)⟩
  case rest =>
    obtain ⟨z, rfl, hpb⟩ := hcut
    generalize wc = w1 at *
    have HP := Lib.hid hpb
    clear hpb H
    go_wp2_with (refine wpList_load_row rfl 46 (.tmp 3) rfl z rfl 46 _ (0, 0) _ (by exact HP.out.bx) Tryz.underlying46 rfl (by rw [sizeF]; rfl) ?_)
    refine (HKN.out _ ⟨by simp, by simp⟩).mono ?_
    rintro e w2 ⟨rfl, hb2⟩
    have HP2 := Lib.hid (HP.out.below hb2)
    clear hb2 HP HKN
    go_wp2_with fail
    refine (wvar_any p bs fp 5 _ (by exact HP2.out.wr) (by omega) (by omega)).mono ?_
    rintro e w3 ⟨rfl, fp3, hw3, ht3⟩
    have HP3 := Lib.hid (HP2.out.went hw3 ht3)
    clear hw3 ht3 HP2
    have z0 : w3.cell? ⟨z, 0, none⟩ = some (.int .i64 5) := (cell_at HP3.out.bx 0).trans rfl
    have z1 : w3.cell? ⟨z, 1, none⟩ = some (.int .u64 sid) := (cell_at HP3.out.bx 1).trans rfl
    have z6 : w3.cell? ⟨z, 6, none⟩ = some (.int .u64 code) := (cell_at HP3.out.bx 6).trans rfl
    go_wp2_with fail
    have HV := Lib.hid (lit_vwaU (fp := fp3) (w := w3.alloc (.cells #[.int .u64 sid, .int .u64 code] 27)) (n := 2) (c := 2) (xs := [sid, code]) (alloc_at _ _) rfl (fun q => by have := HP3.out.wr.lt.2 _ q; omega) rfl (by omega) (by omega))
    refine (wvars_any p (bs ++ varB 5) fp3 _ [sid, code] _ (by exact (HP3.out.below ((Below.refl _ _).alloc (Nat.le_refl _) _)).wr) (by exact HV.out) (by simp; omega) (by rw [List.length_append]; omega) (by simp)).mono ?_
    rintro e w4 ⟨rfl, fp4, hw4, ht4⟩
    have HP4 := Lib.hid ((HP3.out.below ((Below.refl _ _).alloc (Nat.le_refl _) _)).went hw4 ht4)
    clear hw4 ht4 HP3 HV
    go_wp2_with fail
    refine bodyPost_end (results_none rfl _ _ _) rfl ?_
    exact ⟨rfl, fp4, by rw [← List.append_assoc]; exact HP4.out.wr, HP4.out.wt⟩
set_option maxRecDepth 100000 in
set_option maxHeartbeats 1000000 in
theorem put_16 (p : Nat) (bs : List Nat) (fp : Nat → Prop) (f : Fr) (w : World) (h : WrAt w p bs fp) (hk : f.kd = 16) (hf : FrOk f) (hq : f.seq < 18446744073709551616) (hb : bs.length ≤ 10000) :
    Calls Tryz.prog 79 #[.pointer (some ⟨p, 0, none⟩), .agg (encF f).toArray] w fun e w' => e = .returned (.tuple #[]) ∧ ∃ fp', WrAt w' p (bs ++ (varB 16 ++ varsB [f.lim])) fp' ∧ Went fp fp' w w' := by
  have HKN := Lib.hid (kind_q f)
  have hkn : kindN f = 16 := by unfold kindN; rw [if_neg (by rw [hk]; omega), hk]; rfl
  rw [hkn] at HKN
  obtain ⟨kd, sid, off, vd, fin, lim, code, fnl, seq, dly, vr, c0, c1, c2, c3, c4, c5, c6, c7⟩ := f
  obtain rfl : kd = 16 := hk
  have hsid := hf.sid
  have hlim := hf.lim
  have hcode := hf.code
  have hfnl := hf.fnl
  simp only at hsid hlim hcode hfnl hq
  simp only [encF] at HKN ⊢
  have H := Lib.hid h
  clear h hf
  have hv8 : (varB 16).length = 1 := by rw [varB_len]; rfl
  go_enter Tryz.func79, Tryz.ntmps79
  go_upto_region 0 with fail
  go_cut [3] (fun v wx => ∃ z, v = .pointer (some ⟨z, 0, none⟩) ∧ PutB w p bs fp fp wx z #[.int .i64 16, .int .u64 sid, .int .u64 off, vd, .bool fin, .int .u64 lim, .int .u64 code, .int .u64 fnl, .int .u64 seq, .int .u64 dly, vr,
    .int .u8 c0, .int .u8 c1, .int .u8 c2, .int .u8 c3, .int .u8 c4, .int .u8 c5, .int .u8 c6, .int .u8 c7])
  case first =>
    go_wp2_with fail
    go_meet
    case rel => exact ⟨_, rfl, PutB.start H.out (Nat.le_refl _) ((Below.refl _ _).alloc (Nat.le_refl _) _) (alloc_at _ _)⟩
  case rest =>
    obtain ⟨z, rfl, hpb⟩ := hcut
    generalize wc = w1 at *
    have HP := Lib.hid hpb
    clear hpb H
    go_wp2_with (refine wpList_load_row rfl 46 (.tmp 3) rfl z rfl 46 _ (0, 0) _ (by exact HP.out.bx) Tryz.underlying46 rfl (by rw [sizeF]; rfl) ?_)
    refine (HKN.out _ ⟨by simp, by simp⟩).mono ?_
    rintro e w2 ⟨rfl, hb2⟩
    have HP2 := Lib.hid (HP.out.below hb2)
    clear hb2 HP HKN
    go_wp2_with fail
    refine (wvar_any p bs fp 16 _ (by exact HP2.out.wr) (by omega) (by omega)).mono ?_
    rintro e w3 ⟨rfl, fp3, hw3, ht3⟩
    have HP3 := Lib.hid (HP2.out.went hw3 ht3)
    clear hw3 ht3 HP2
    have z0 : w3.cell? ⟨z, 0, none⟩ = some (.int .i64 16) := (cell_at HP3.out.bx 0).trans rfl
    have z5 : w3.cell? ⟨z, 5, none⟩ = some (.int .u64 lim) := (cell_at HP3.out.bx 5).trans rfl
    go_wp2_with fail
    have HV := Lib.hid (lit_vwaU (fp := fp3) (w := w3.alloc (.cells #[.int .u64 lim] 27)) (n := 1) (c := 1) (xs := [lim]) (alloc_at _ _) rfl (fun q => by have := HP3.out.wr.lt.2 _ q; omega) rfl (by omega) (by omega))
    refine (wvars_any p (bs ++ varB 16) fp3 _ [lim] _ (by exact (HP3.out.below ((Below.refl _ _).alloc (Nat.le_refl _) _)).wr) (by exact HV.out) (by simp; omega) (by rw [List.length_append]; omega) (by simp)).mono ?_
    rintro e w4 ⟨rfl, fp4, hw4, ht4⟩
    have HP4 := Lib.hid ((HP3.out.below ((Below.refl _ _).alloc (Nat.le_refl _) _)).went hw4 ht4)
    clear hw4 ht4 HP3 HV
    go_wp2_with fail
    refine bodyPost_end (results_none rfl _ _ _) rfl ?_
    exact ⟨rfl, fp4, by rw [← List.append_assoc]; exact HP4.out.wr, HP4.out.wt⟩
set_option maxRecDepth 100000 in
set_option maxHeartbeats 1000000 in
theorem put_17 (p : Nat) (bs : List Nat) (fp : Nat → Prop) (f : Fr) (w : World) (h : WrAt w p bs fp) (hk : f.kd = 17) (hf : FrOk f) (hq : f.seq < 18446744073709551616) (hb : bs.length ≤ 10000) :
    Calls Tryz.prog 79 #[.pointer (some ⟨p, 0, none⟩), .agg (encF f).toArray] w fun e w' => e = .returned (.tuple #[]) ∧ ∃ fp', WrAt w' p (bs ++ (varB 17 ++ varsB [f.sid, f.lim])) fp' ∧ Went fp fp' w w' := by
  have HKN := Lib.hid (kind_q f)
  have hkn : kindN f = 17 := by unfold kindN; rw [if_neg (by rw [hk]; omega), hk]; rfl
  rw [hkn] at HKN
  obtain ⟨kd, sid, off, vd, fin, lim, code, fnl, seq, dly, vr, c0, c1, c2, c3, c4, c5, c6, c7⟩ := f
  obtain rfl : kd = 17 := hk
  have hsid := hf.sid
  have hlim := hf.lim
  have hcode := hf.code
  have hfnl := hf.fnl
  simp only at hsid hlim hcode hfnl hq
  simp only [encF] at HKN ⊢
  have H := Lib.hid h
  clear h hf
  have hv8 : (varB 17).length = 1 := by rw [varB_len]; rfl
  go_enter Tryz.func79, Tryz.ntmps79
  go_upto_region 0 with fail
  go_cut [3] (fun v wx => ∃ z, v = .pointer (some ⟨z, 0, none⟩) ∧ PutB w p bs fp fp wx z #[.int .i64 17, .int .u64 sid, .int .u64 off, vd, .bool fin, .int .u64 lim, .int .u64 code, .int .u64 fnl, .int .u64 seq, .int .u64 dly, vr,
    .int .u8 c0, .int .u8 c1, .int .u8 c2, .int .u8 c3, .int .u8 c4, .int .u8 c5, .int .u8 c6, .int .u8 c7])
  case first =>
    go_wp2_with fail
    go_meet
    case rel => exact ⟨_, rfl, PutB.start H.out (Nat.le_refl _) ((Below.refl _ _).alloc (Nat.le_refl _) _) (alloc_at _ _)⟩
  case rest =>
    obtain ⟨z, rfl, hpb⟩ := hcut
    generalize wc = w1 at *
    have HP := Lib.hid hpb
    clear hpb H
    go_wp2_with (refine wpList_load_row rfl 46 (.tmp 3) rfl z rfl 46 _ (0, 0) _ (by exact HP.out.bx) Tryz.underlying46 rfl (by rw [sizeF]; rfl) ?_)
    refine (HKN.out _ ⟨by simp, by simp⟩).mono ?_
    rintro e w2 ⟨rfl, hb2⟩
    have HP2 := Lib.hid (HP.out.below hb2)
    clear hb2 HP HKN
    go_wp2_with fail
    refine (wvar_any p bs fp 17 _ (by exact HP2.out.wr) (by omega) (by omega)).mono ?_
    rintro e w3 ⟨rfl, fp3, hw3, ht3⟩
    have HP3 := Lib.hid (HP2.out.went hw3 ht3)
    clear hw3 ht3 HP2
    have z0 : w3.cell? ⟨z, 0, none⟩ = some (.int .i64 17) := (cell_at HP3.out.bx 0).trans rfl
    have z1 : w3.cell? ⟨z, 1, none⟩ = some (.int .u64 sid) := (cell_at HP3.out.bx 1).trans rfl
    have z5 : w3.cell? ⟨z, 5, none⟩ = some (.int .u64 lim) := (cell_at HP3.out.bx 5).trans rfl
    go_wp2_with fail
    have HV := Lib.hid (lit_vwaU (fp := fp3) (w := w3.alloc (.cells #[.int .u64 sid, .int .u64 lim] 27)) (n := 2) (c := 2) (xs := [sid, lim]) (alloc_at _ _) rfl (fun q => by have := HP3.out.wr.lt.2 _ q; omega) rfl (by omega) (by omega))
    refine (wvars_any p (bs ++ varB 17) fp3 _ [sid, lim] _ (by exact (HP3.out.below ((Below.refl _ _).alloc (Nat.le_refl _) _)).wr) (by exact HV.out) (by simp; omega) (by rw [List.length_append]; omega) (by simp)).mono ?_
    rintro e w4 ⟨rfl, fp4, hw4, ht4⟩
    have HP4 := Lib.hid ((HP3.out.below ((Below.refl _ _).alloc (Nat.le_refl _) _)).went hw4 ht4)
    clear hw4 ht4 HP3 HV
    go_wp2_with fail
    refine bodyPost_end (results_none rfl _ _ _) rfl ?_
    exact ⟨rfl, fp4, by rw [← List.append_assoc]; exact HP4.out.wr, HP4.out.wt⟩
set_option maxRecDepth 100000 in
set_option maxHeartbeats 1000000 in
theorem put_18 (p : Nat) (bs : List Nat) (fp : Nat → Prop) (f : Fr) (w : World) (h : WrAt w p bs fp) (hk : f.kd = 18) (hf : FrOk f) (hq : f.seq < 18446744073709551616) (hb : bs.length ≤ 10000) :
    Calls Tryz.prog 79 #[.pointer (some ⟨p, 0, none⟩), .agg (encF f).toArray] w fun e w' => e = .returned (.tuple #[]) ∧ ∃ fp', WrAt w' p (bs ++ (varB 18 ++ varsB [f.lim])) fp' ∧ Went fp fp' w w' := by
  have HKN := Lib.hid (kind_q f)
  have hkn : kindN f = 18 := by unfold kindN; rw [if_neg (by rw [hk]; omega), hk]; rfl
  rw [hkn] at HKN
  obtain ⟨kd, sid, off, vd, fin, lim, code, fnl, seq, dly, vr, c0, c1, c2, c3, c4, c5, c6, c7⟩ := f
  obtain rfl : kd = 18 := hk
  have hsid := hf.sid
  have hlim := hf.lim
  have hcode := hf.code
  have hfnl := hf.fnl
  simp only at hsid hlim hcode hfnl hq
  simp only [encF] at HKN ⊢
  have H := Lib.hid h
  clear h hf
  have hv8 : (varB 18).length = 1 := by rw [varB_len]; rfl
  go_enter Tryz.func79, Tryz.ntmps79
  go_upto_region 0 with fail
  go_cut [3] (fun v wx => ∃ z, v = .pointer (some ⟨z, 0, none⟩) ∧ PutB w p bs fp fp wx z #[.int .i64 18, .int .u64 sid, .int .u64 off, vd, .bool fin, .int .u64 lim, .int .u64 code, .int .u64 fnl, .int .u64 seq, .int .u64 dly, vr,
    .int .u8 c0, .int .u8 c1, .int .u8 c2, .int .u8 c3, .int .u8 c4, .int .u8 c5, .int .u8 c6, .int .u8 c7])
  case first =>
    go_wp2_with fail
    go_meet
    case rel => exact ⟨_, rfl, PutB.start H.out (Nat.le_refl _) ((Below.refl _ _).alloc (Nat.le_refl _) _) (alloc_at _ _)⟩
  case rest =>
    obtain ⟨z, rfl, hpb⟩ := hcut
    generalize wc = w1 at *
    have HP := Lib.hid hpb
    clear hpb H
    go_wp2_with (refine wpList_load_row rfl 46 (.tmp 3) rfl z rfl 46 _ (0, 0) _ (by exact HP.out.bx) Tryz.underlying46 rfl (by rw [sizeF]; rfl) ?_)
    refine (HKN.out _ ⟨by simp, by simp⟩).mono ?_
    rintro e w2 ⟨rfl, hb2⟩
    have HP2 := Lib.hid (HP.out.below hb2)
    clear hb2 HP HKN
    go_wp2_with fail
    refine (wvar_any p bs fp 18 _ (by exact HP2.out.wr) (by omega) (by omega)).mono ?_
    rintro e w3 ⟨rfl, fp3, hw3, ht3⟩
    have HP3 := Lib.hid (HP2.out.went hw3 ht3)
    clear hw3 ht3 HP2
    have z0 : w3.cell? ⟨z, 0, none⟩ = some (.int .i64 18) := (cell_at HP3.out.bx 0).trans rfl
    have z5 : w3.cell? ⟨z, 5, none⟩ = some (.int .u64 lim) := (cell_at HP3.out.bx 5).trans rfl
    go_wp2_with fail
    have HV := Lib.hid (lit_vwaU (fp := fp3) (w := w3.alloc (.cells #[.int .u64 lim] 27)) (n := 1) (c := 1) (xs := [lim]) (alloc_at _ _) rfl (fun q => by have := HP3.out.wr.lt.2 _ q; omega) rfl (by omega) (by omega))
    refine (wvars_any p (bs ++ varB 18) fp3 _ [lim] _ (by exact (HP3.out.below ((Below.refl _ _).alloc (Nat.le_refl _) _)).wr) (by exact HV.out) (by simp; omega) (by rw [List.length_append]; omega) (by simp)).mono ?_
    rintro e w4 ⟨rfl, fp4, hw4, ht4⟩
    have HP4 := Lib.hid ((HP3.out.below ((Below.refl _ _).alloc (Nat.le_refl _) _)).went hw4 ht4)
    clear hw4 ht4 HP3 HV
    go_wp2_with fail
    refine bodyPost_end (results_none rfl _ _ _) rfl ?_
    exact ⟨rfl, fp4, by rw [← List.append_assoc]; exact HP4.out.wr, HP4.out.wt⟩
set_option maxRecDepth 100000 in
set_option maxHeartbeats 1000000 in
theorem put_20 (p : Nat) (bs : List Nat) (fp : Nat → Prop) (f : Fr) (w : World) (h : WrAt w p bs fp) (hk : f.kd = 20) (hf : FrOk f) (hq : f.seq < 18446744073709551616) (hb : bs.length ≤ 10000) :
    Calls Tryz.prog 79 #[.pointer (some ⟨p, 0, none⟩), .agg (encF f).toArray] w fun e w' => e = .returned (.tuple #[]) ∧ ∃ fp', WrAt w' p (bs ++ (varB 20 ++ varsB [f.lim])) fp' ∧ Went fp fp' w w' := by
  have HKN := Lib.hid (kind_q f)
  have hkn : kindN f = 20 := by unfold kindN; rw [if_neg (by rw [hk]; omega), hk]; rfl
  rw [hkn] at HKN
  obtain ⟨kd, sid, off, vd, fin, lim, code, fnl, seq, dly, vr, c0, c1, c2, c3, c4, c5, c6, c7⟩ := f
  obtain rfl : kd = 20 := hk
  have hsid := hf.sid
  have hlim := hf.lim
  have hcode := hf.code
  have hfnl := hf.fnl
  simp only at hsid hlim hcode hfnl hq
  simp only [encF] at HKN ⊢
  have H := Lib.hid h
  clear h hf
  have hv8 : (varB 20).length = 1 := by rw [varB_len]; rfl
  go_enter Tryz.func79, Tryz.ntmps79
  go_upto_region 0 with fail
  go_cut [3] (fun v wx => ∃ z, v = .pointer (some ⟨z, 0, none⟩) ∧ PutB w p bs fp fp wx z #[.int .i64 20, .int .u64 sid, .int .u64 off, vd, .bool fin, .int .u64 lim, .int .u64 code, .int .u64 fnl, .int .u64 seq, .int .u64 dly, vr,
    .int .u8 c0, .int .u8 c1, .int .u8 c2, .int .u8 c3, .int .u8 c4, .int .u8 c5, .int .u8 c6, .int .u8 c7])
  case first =>
    go_wp2_with fail
    go_meet
    case rel => exact ⟨_, rfl, PutB.start H.out (Nat.le_refl _) ((Below.refl _ _).alloc (Nat.le_refl _) _) (alloc_at _ _)⟩
  case rest =>
    obtain ⟨z, rfl, hpb⟩ := hcut
    generalize wc = w1 at *
    have HP := Lib.hid hpb
    clear hpb H
    go_wp2_with (refine wpList_load_row rfl 46 (.tmp 3) rfl z rfl 46 _ (0, 0) _ (by exact HP.out.bx) Tryz.underlying46 rfl (by rw [sizeF]; rfl) ?_)
    refine (HKN.out _ ⟨by simp, by simp⟩).mono ?_
    rintro e w2 ⟨rfl, hb2⟩
    have HP2 := Lib.hid (HP.out.below hb2)
    clear hb2 HP HKN
    go_wp2_with fail
    refine (wvar_any p bs fp 20 _ (by exact HP2.out.wr) (by omega) (by omega)).mono ?_
    rintro e w3 ⟨rfl, fp3, hw3, ht3⟩
    have HP3 := Lib.hid (HP2.out.went hw3 ht3)
    clear hw3 ht3 HP2
    have z0 : w3.cell? ⟨z, 0, none⟩ = some (.int .i64 20) := (cell_at HP3.out.bx 0).trans rfl
    have z5 : w3.cell? ⟨z, 5, none⟩ = some (.int .u64 lim) := (cell_at HP3.out.bx 5).trans rfl
    go_wp2_with fail
    have HV := Lib.hid (lit_vwaU (fp := fp3) (w := w3.alloc (.cells #[.int .u64 lim] 27)) (n := 1) (c := 1) (xs := [lim]) (alloc_at _ _) rfl (fun q => by have := HP3.out.wr.lt.2 _ q; omega) rfl (by omega) (by omega))
    refine (wvars_any p (bs ++ varB 20) fp3 _ [lim] _ (by exact (HP3.out.below ((Below.refl _ _).alloc (Nat.le_refl _) _)).wr) (by exact HV.out) (by simp; omega) (by rw [List.length_append]; omega) (by simp)).mono ?_
    rintro e w4 ⟨rfl, fp4, hw4, ht4⟩
    have HP4 := Lib.hid ((HP3.out.below ((Below.refl _ _).alloc (Nat.le_refl _) _)).went hw4 ht4)
    clear hw4 ht4 HP3 HV
    go_wp2_with fail
    refine bodyPost_end (results_none rfl _ _ _) rfl ?_
    exact ⟨rfl, fp4, by rw [← List.append_assoc]; exact HP4.out.wr, HP4.out.wt⟩
set_option maxRecDepth 100000 in
set_option maxHeartbeats 1000000 in
theorem put_25 (p : Nat) (bs : List Nat) (fp : Nat → Prop) (f : Fr) (w : World) (h : WrAt w p bs fp) (hk : f.kd = 25) (hf : FrOk f) (hq : f.seq < 18446744073709551616) (hb : bs.length ≤ 10000) :
    Calls Tryz.prog 79 #[.pointer (some ⟨p, 0, none⟩), .agg (encF f).toArray] w fun e w' => e = .returned (.tuple #[]) ∧ ∃ fp', WrAt w' p (bs ++ (varB 25 ++ varsB [f.seq])) fp' ∧ Went fp fp' w w' := by
  have HKN := Lib.hid (kind_q f)
  have hkn : kindN f = 25 := by unfold kindN; rw [if_neg (by rw [hk]; omega), hk]; rfl
  rw [hkn] at HKN
  obtain ⟨kd, sid, off, vd, fin, lim, code, fnl, seq, dly, vr, c0, c1, c2, c3, c4, c5, c6, c7⟩ := f
  obtain rfl : kd = 25 := hk
  have hsid := hf.sid
  have hlim := hf.lim
  have hcode := hf.code
  have hfnl := hf.fnl
  simp only at hsid hlim hcode hfnl hq
  simp only [encF] at HKN ⊢
  have H := Lib.hid h
  clear h hf
  have hv8 : (varB 25).length = 1 := by rw [varB_len]; rfl
  go_enter Tryz.func79, Tryz.ntmps79
  go_upto_region 0 with fail
  go_cut [3] (fun v wx => ∃ z, v = .pointer (some ⟨z, 0, none⟩) ∧ PutB w p bs fp fp wx z #[.int .i64 25, .int .u64 sid, .int .u64 off, vd, .bool fin, .int .u64 lim, .int .u64 code, .int .u64 fnl, .int .u64 seq, .int .u64 dly, vr,
    .int .u8 c0, .int .u8 c1, .int .u8 c2, .int .u8 c3, .int .u8 c4, .int .u8 c5, .int .u8 c6, .int .u8 c7])
  case first =>
    go_wp2_with fail
    go_meet
    case rel => exact ⟨_, rfl, PutB.start H.out (Nat.le_refl _) ((Below.refl _ _).alloc (Nat.le_refl _) _) (alloc_at _ _)⟩
  case rest =>
    obtain ⟨z, rfl, hpb⟩ := hcut
    generalize wc = w1 at *
    have HP := Lib.hid hpb
    clear hpb H
    go_wp2_with (refine wpList_load_row rfl 46 (.tmp 3) rfl z rfl 46 _ (0, 0) _ (by exact HP.out.bx) Tryz.underlying46 rfl (by rw [sizeF]; rfl) ?_)
    refine (HKN.out _ ⟨by simp, by simp⟩).mono ?_
    rintro e w2 ⟨rfl, hb2⟩
    have HP2 := Lib.hid (HP.out.below hb2)
    clear hb2 HP HKN
    go_wp2_with fail
    refine (wvar_any p bs fp 25 _ (by exact HP2.out.wr) (by omega) (by omega)).mono ?_
    rintro e w3 ⟨rfl, fp3, hw3, ht3⟩
    have HP3 := Lib.hid (HP2.out.went hw3 ht3)
    clear hw3 ht3 HP2
    have z0 : w3.cell? ⟨z, 0, none⟩ = some (.int .i64 25) := (cell_at HP3.out.bx 0).trans rfl
    have z8 : w3.cell? ⟨z, 8, none⟩ = some (.int .u64 seq) := (cell_at HP3.out.bx 8).trans rfl
    go_wp2_with fail
    have HV := Lib.hid (lit_vwaU (fp := fp3) (w := w3.alloc (.cells #[.int .u64 seq] 27)) (n := 1) (c := 1) (xs := [seq]) (alloc_at _ _) rfl (fun q => by have := HP3.out.wr.lt.2 _ q; omega) rfl (by omega) (by omega))
    refine (wvars_any p (bs ++ varB 25) fp3 _ [seq] _ (by exact (HP3.out.below ((Below.refl _ _).alloc (Nat.le_refl _) _)).wr) (by exact HV.out) (by simp; omega) (by rw [List.length_append]; omega) (by simp)).mono ?_
    rintro e w4 ⟨rfl, fp4, hw4, ht4⟩
    have HP4 := Lib.hid ((HP3.out.below ((Below.refl _ _).alloc (Nat.le_refl _) _)).went hw4 ht4)
    clear hw4 ht4 HP3 HV
    go_wp2_with fail
    refine bodyPost_end (results_none rfl _ _ _) rfl ?_
    exact ⟨rfl, fp4, by rw [← List.append_assoc]; exact HP4.out.wr, HP4.out.wt⟩
set_option maxRecDepth 100000 in
set_option maxHeartbeats 1000000 in
theorem put_0 (p : Nat) (bs : List Nat) (fp : Nat → Prop) (f : Fr) (w : World) (h : WrAt w p bs fp) (hk : f.kd = 0) (hf : FrOk f) (hq : f.seq < 18446744073709551616) (hb : bs.length ≤ 10000) :
    Calls Tryz.prog 79 #[.pointer (some ⟨p, 0, none⟩), .agg (encF f).toArray] w fun e w' => e = .returned (.tuple #[]) ∧ ∃ fp', WrAt w' p (bs ++ (varB 0 ++ varsB [])) fp' ∧ Went fp fp' w w' := by
  have HKN := Lib.hid (kind_q f)
  have hkn : kindN f = 0 := by unfold kindN; rw [if_neg (by rw [hk]; omega), hk]; rfl
  rw [hkn] at HKN
  obtain ⟨kd, sid, off, vd, fin, lim, code, fnl, seq, dly, vr, c0, c1, c2, c3, c4, c5, c6, c7⟩ := f
  obtain rfl : kd = 0 := hk
  have hsid := hf.sid
  have hlim := hf.lim
  have hcode := hf.code
  have hfnl := hf.fnl
  simp only at hsid hlim hcode hfnl hq
  simp only [encF] at HKN ⊢
  have H := Lib.hid h
  clear h hf
  have hv8 : (varB 0).length = 1 := by rw [varB_len]; rfl
  go_enter Tryz.func79, Tryz.ntmps79
  go_upto_region 0 with fail
  go_cut [3] (fun v wx => ∃ z, v = .pointer (some ⟨z, 0, none⟩) ∧ PutB w p bs fp fp wx z #[.int .i64 0, .int .u64 sid, .int .u64 off, vd, .bool fin, .int .u64 lim, .int .u64 code, .int .u64 fnl, .int .u64 seq, .int .u64 dly, vr,
    .int .u8 c0, .int .u8 c1, .int .u8 c2, .int .u8 c3, .int .u8 c4, .int .u8 c5, .int .u8 c6, .int .u8 c7])
  case first =>
    go_wp2_with fail
    go_meet
    case rel => exact ⟨_, rfl, PutB.start H.out (Nat.le_refl _) ((Below.refl _ _).alloc (Nat.le_refl _) _) (alloc_at _ _)⟩
  case rest =>
    obtain ⟨z, rfl, hpb⟩ := hcut
    generalize wc = w1 at *
    have HP := Lib.hid hpb
    clear hpb H
    go_wp2_with (refine wpList_load_row rfl 46 (.tmp 3) rfl z rfl 46 _ (0, 0) _ (by exact HP.out.bx) Tryz.underlying46 rfl (by rw [sizeF]; rfl) ?_)
    refine (HKN.out _ ⟨by simp, by simp⟩).mono ?_
    rintro e w2 ⟨rfl, hb2⟩
    have HP2 := Lib.hid (HP.out.below hb2)
    clear hb2 HP HKN
    go_wp2_with fail
    refine (wvar_any p bs fp 0 _ (by exact HP2.out.wr) (by omega) (by omega)).mono ?_
    rintro e w3 ⟨rfl, fp3, hw3, ht3⟩
    have HP3 := Lib.hid (HP2.out.went hw3 ht3)
    clear hw3 ht3 HP2
    have z0 : w3.cell? ⟨z, 0, none⟩ = some (.int .i64 0) := (cell_at HP3.out.bx 0).trans rfl
    go_wp2_with fail
    refine bodyPost_end (results_none rfl _ _ _) rfl ?_
    exact ⟨rfl, fp3, by rw [varsB, List.flatMap_nil, List.append_nil]; exact HP3.out.wr, HP3.out.wt⟩
set_option maxRecDepth 100000 in
set_option maxHeartbeats 1000000 in
theorem put_1 (p : Nat) (bs : List Nat) (fp : Nat → Prop) (f : Fr) (w : World) (h : WrAt w p bs fp) (hk : f.kd = 1) (hf : FrOk f) (hq : f.seq < 18446744073709551616) (hb : bs.length ≤ 10000) :
    Calls Tryz.prog 79 #[.pointer (some ⟨p, 0, none⟩), .agg (encF f).toArray] w fun e w' => e = .returned (.tuple #[]) ∧ ∃ fp', WrAt w' p (bs ++ (varB 1 ++ varsB [])) fp' ∧ Went fp fp' w w' := by
  have HKN := Lib.hid (kind_q f)
  have hkn : kindN f = 1 := by unfold kindN; rw [if_neg (by rw [hk]; omega), hk]; rfl
  rw [hkn] at HKN
  obtain ⟨kd, sid, off, vd, fin, lim, code, fnl, seq, dly, vr, c0, c1, c2, c3, c4, c5, c6, c7⟩ := f
  obtain rfl : kd = 1 := hk
  have hsid := hf.sid
  have hlim := hf.lim
  have hcode := hf.code
  have hfnl := hf.fnl
  simp only at hsid hlim hcode hfnl hq
  simp only [encF] at HKN ⊢
  have H := Lib.hid h
  clear h hf
  have hv8 : (varB 1).length = 1 := by rw [varB_len]; rfl
  go_enter Tryz.func79, Tryz.ntmps79
  go_upto_region 0 with fail
  go_cut [3] (fun v wx => ∃ z, v = .pointer (some ⟨z, 0, none⟩) ∧ PutB w p bs fp fp wx z #[.int .i64 1, .int .u64 sid, .int .u64 off, vd, .bool fin, .int .u64 lim, .int .u64 code, .int .u64 fnl, .int .u64 seq, .int .u64 dly, vr,
    .int .u8 c0, .int .u8 c1, .int .u8 c2, .int .u8 c3, .int .u8 c4, .int .u8 c5, .int .u8 c6, .int .u8 c7])
  case first =>
    go_wp2_with fail
    go_meet
    case rel => exact ⟨_, rfl, PutB.start H.out (Nat.le_refl _) ((Below.refl _ _).alloc (Nat.le_refl _) _) (alloc_at _ _)⟩
  case rest =>
    obtain ⟨z, rfl, hpb⟩ := hcut
    generalize wc = w1 at *
    have HP := Lib.hid hpb
    clear hpb H
    go_wp2_with (refine wpList_load_row rfl 46 (.tmp 3) rfl z rfl 46 _ (0, 0) _ (by exact HP.out.bx) Tryz.underlying46 rfl (by rw [sizeF]; rfl) ?_)
    refine (HKN.out _ ⟨by simp, by simp⟩).mono ?_
    rintro e w2 ⟨rfl, hb2⟩
    have HP2 := Lib.hid (HP.out.below hb2)
    clear hb2 HP HKN
    go_wp2_with fail
    refine (wvar_any p bs fp 1 _ (by exact HP2.out.wr) (by omega) (by omega)).mono ?_
    rintro e w3 ⟨rfl, fp3, hw3, ht3⟩
    have HP3 := Lib.hid (HP2.out.went hw3 ht3)
    clear hw3 ht3 HP2
    have z0 : w3.cell? ⟨z, 0, none⟩ = some (.int .i64 1) := (cell_at HP3.out.bx 0).trans rfl
    go_wp2_with fail
    refine bodyPost_end (results_none rfl _ _ _) rfl ?_
    exact ⟨rfl, fp3, by rw [varsB, List.flatMap_nil, List.append_nil]; exact HP3.out.wr, HP3.out.wt⟩
set_option maxRecDepth 100000 in
set_option maxHeartbeats 1000000 in
theorem put_30 (p : Nat) (bs : List Nat) (fp : Nat → Prop) (f : Fr) (w : World) (h : WrAt w p bs fp) (hk : f.kd = 30) (hf : FrOk f) (hq : f.seq < 18446744073709551616) (hb : bs.length ≤ 10000) :
    Calls Tryz.prog 79 #[.pointer (some ⟨p, 0, none⟩), .agg (encF f).toArray] w fun e w' => e = .returned (.tuple #[]) ∧ ∃ fp', WrAt w' p (bs ++ (varB 30 ++ varsB [])) fp' ∧ Went fp fp' w w' := by
  have HKN := Lib.hid (kind_q f)
  have hkn : kindN f = 30 := by unfold kindN; rw [if_neg (by rw [hk]; omega), hk]; rfl
  rw [hkn] at HKN
  obtain ⟨kd, sid, off, vd, fin, lim, code, fnl, seq, dly, vr, c0, c1, c2, c3, c4, c5, c6, c7⟩ := f
  obtain rfl : kd = 30 := hk
  have hsid := hf.sid
  have hlim := hf.lim
  have hcode := hf.code
  have hfnl := hf.fnl
  simp only at hsid hlim hcode hfnl hq
  simp only [encF] at HKN ⊢
  have H := Lib.hid h
  clear h hf
  have hv8 : (varB 30).length = 1 := by rw [varB_len]; rfl
  go_enter Tryz.func79, Tryz.ntmps79
  go_upto_region 0 with fail
  go_cut [3] (fun v wx => ∃ z, v = .pointer (some ⟨z, 0, none⟩) ∧ PutB w p bs fp fp wx z #[.int .i64 30, .int .u64 sid, .int .u64 off, vd, .bool fin, .int .u64 lim, .int .u64 code, .int .u64 fnl, .int .u64 seq, .int .u64 dly, vr,
    .int .u8 c0, .int .u8 c1, .int .u8 c2, .int .u8 c3, .int .u8 c4, .int .u8 c5, .int .u8 c6, .int .u8 c7])
  case first =>
    go_wp2_with fail
    go_meet
    case rel => exact ⟨_, rfl, PutB.start H.out (Nat.le_refl _) ((Below.refl _ _).alloc (Nat.le_refl _) _) (alloc_at _ _)⟩
  case rest =>
    obtain ⟨z, rfl, hpb⟩ := hcut
    generalize wc = w1 at *
    have HP := Lib.hid hpb
    clear hpb H
    go_wp2_with (refine wpList_load_row rfl 46 (.tmp 3) rfl z rfl 46 _ (0, 0) _ (by exact HP.out.bx) Tryz.underlying46 rfl (by rw [sizeF]; rfl) ?_)
    refine (HKN.out _ ⟨by simp, by simp⟩).mono ?_
    rintro e w2 ⟨rfl, hb2⟩
    have HP2 := Lib.hid (HP.out.below hb2)
    clear hb2 HP HKN
    go_wp2_with fail
    refine (wvar_any p bs fp 30 _ (by exact HP2.out.wr) (by omega) (by omega)).mono ?_
    rintro e w3 ⟨rfl, fp3, hw3, ht3⟩
    have HP3 := Lib.hid (HP2.out.went hw3 ht3)
    clear hw3 ht3 HP2
    have z0 : w3.cell? ⟨z, 0, none⟩ = some (.int .i64 30) := (cell_at HP3.out.bx 0).trans rfl
    go_wp2_with fail
    refine bodyPost_end (results_none rfl _ _ _) rfl ?_
    exact ⟨rfl, fp3, by rw [varsB, List.flatMap_nil, List.append_nil]; exact HP3.out.wr, HP3.out.wt⟩
end Go.Proofs.YtnneoeimgbemfaaGreat

/- DERIVED. frame's Right of some kinds (printed by mkright.py). -/
namespace Go.Proofs.YtnneoeimgbemfaaGreat
open Go.RowKit

set_option maxRecDepth 100000 in
set_option maxHeartbeats 1000000 in
theorem right_4 (f : Fr) (w : World) (hk : f.kd = 4) (hf : FrOk f) :
    Calls Tryz.prog 78 #[.agg (encF f).toArray] w fun e w' => e = .returned (.bool (inB [f.sid, f.code] && decide (f.fnl ≤ 1099511627776))) ∧ Below w.heap.size w w' := by
  obtain ⟨kd, sid, off, vd, fin, lim, code, fnl, seq, dly, vr, c0, c1, c2, c3, c4, c5, c6, c7⟩ := f
  obtain rfl : kd = 4 := hk
  have hsid := hf.sid
  have hlim := hf.lim
  have hcode := hf.code
  have hfnl := hf.fnl
  simp only at hsid hlim hcode hfnl
  simp only [encF]
  clear hf
  obtain ⟨g, hg⟩ : ∃ g, decide (fnl ≤ 1099511627776) = g := ⟨_, rfl⟩
  have hgi : decide ((fnl : Int) ≤ 1099511627776) = g := by rw [← hg]; exact decide_eq_decide.2 (by omega)
  rw [hg]
  clear hg
  obtain ⟨o, ho⟩ : ∃ o, inB [sid, code] = o := ⟨_, rfl⟩
  rw [ho]
  have HO := Lib.hid ho
  clear ho
  go_enter Tryz.func78, Tryz.ntmps78
  go_wp2_with fail
  have hav := (Below.refl w.heap.size w).alloc (Nat.le_refl _) (.cells #[.int .i64 4, .int .u64 sid, .int .u64 off, vd, .bool fin, .int .u64 lim, .int .u64 code, .int .u64 fnl, .int .u64 seq, .int .u64 dly, vr,
    .int .u8 c0, .int .u8 c1, .int .u8 c2, .int .u8 c3, .int .u8 c4, .int .u8 c5, .int .u8 c6, .int .u8 c7] 46)
  generalize hw1 : w.alloc (.cells #[.int .i64 4, .int .u64 sid, .int .u64 off, vd, .bool fin, .int .u64 lim, .int .u64 code, .int .u64 fnl, .int .u64 seq, .int .u64 dly, vr,
    .int .u8 c0, .int .u8 c1, .int .u8 c2, .int .u8 c3, .int .u8 c4, .int .u8 c5, .int .u8 c6, .int .u8 c7] 46) = w1 at *
  have e5 : w1.cell? ⟨w.heap.size, 7, none⟩ = some (.int .u64 fnl) := by rw [← hw1]; exact (cell_at (alloc_at _ _) 7).trans rfl
  have hs1 : w1.heap.size = w.heap.size + 1 := by rw [← hw1]; simp
  clear hw1
  have e6 : (w1.alloc (.cells #[.int .u64 sid, .int .u64 code] 27)).cell? ⟨w.heap.size, 7, none⟩ = some (.int .u64 fnl) := (cell_keep ((Below.refl _ _).alloc (Nat.le_refl _) _) (by omega) e5)
  have HB := Lib.hid (hav.alloc (by omega) (.cells #[.int .u64 sid, .int .u64 code] 27))
  have HV := Lib.hid (lit_vwaU (fp := fun _ => False) (w := w1.alloc (.cells #[.int .u64 sid, .int .u64 code] 27)) (n := 2) (c := 2) (xs := [sid, code]) (alloc_at _ _) rfl (fun q => q) rfl (by omega) (by omega))
  rw [← hs1]
  refine (in_any _ [sid, code] _ _ (by exact HV.out.vw) (by simp; omega)).mono ?_
  rw [HO.out]
  rintro e w2 ⟨rfl, rfl⟩
  clear hs1 hav HV HO e5
  cases o
  all_goals go_wp2_with fail
  all_goals go_ret
  all_goals exact ⟨rfl, HB.out⟩
set_option maxRecDepth 100000 in
set_option maxHeartbeats 1000000 in
theorem right_5 (f : Fr) (w : World) (hk : f.kd = 5) (hf : FrOk f) :
    Calls Tryz.prog 78 #[.agg (encF f).toArray] w fun e w' => e = .returned (.bool (inB [f.sid, f.code])) ∧ Below w.heap.size w w' := by
  obtain ⟨kd, sid, off, vd, fin, lim, code, fnl, seq, dly, vr, c0, c1, c2, c3, c4, c5, c6, c7⟩ := f
  obtain rfl : kd = 5 := hk
  have hsid := hf.sid
  have hlim := hf.lim
  have hcode := hf.code
  have hfnl := hf.fnl
  simp only at hsid hlim hcode hfnl
  simp only [encF]
  clear hf
  obtain ⟨o, ho⟩ : ∃ o, inB [sid, code] = o := ⟨_, rfl⟩
  rw [ho]
  have HO := Lib.hid ho
  clear ho
  go_enter Tryz.func78, Tryz.ntmps78
  go_wp2_with fail
  have hav := (Below.refl w.heap.size w).alloc (Nat.le_refl _) (.cells #[.int .i64 5, .int .u64 sid, .int .u64 off, vd, .bool fin, .int .u64 lim, .int .u64 code, .int .u64 fnl, .int .u64 seq, .int .u64 dly, vr,
    .int .u8 c0, .int .u8 c1, .int .u8 c2, .int .u8 c3, .int .u8 c4, .int .u8 c5, .int .u8 c6, .int .u8 c7] 46)
  generalize hw1 : w.alloc (.cells #[.int .i64 5, .int .u64 sid, .int .u64 off, vd, .bool fin, .int .u64 lim, .int .u64 code, .int .u64 fnl, .int .u64 seq, .int .u64 dly, vr,
    .int .u8 c0, .int .u8 c1, .int .u8 c2, .int .u8 c3, .int .u8 c4, .int .u8 c5, .int .u8 c6, .int .u8 c7] 46) = w1 at *
  have hs1 : w1.heap.size = w.heap.size + 1 := by rw [← hw1]; simp
  clear hw1
  have HB := Lib.hid (hav.alloc (by omega) (.cells #[.int .u64 sid, .int .u64 code] 27))
  have HV := Lib.hid (lit_vwaU (fp := fun _ => False) (w := w1.alloc (.cells #[.int .u64 sid, .int .u64 code] 27)) (n := 2) (c := 2) (xs := [sid, code]) (alloc_at _ _) rfl (fun q => q) rfl (by omega) (by omega))
  rw [← hs1]
  refine (in_any _ [sid, code] _ _ (by exact HV.out.vw) (by simp; omega)).mono ?_
  rw [HO.out]
  rintro e w2 ⟨rfl, rfl⟩
  clear hs1 hav HV HO
  go_wp2_with fail
  go_ret
  exact ⟨rfl, HB.out⟩
set_option maxRecDepth 100000 in
set_option maxHeartbeats 1000000 in
theorem right_16 (f : Fr) (w : World) (hk : f.kd = 16) (hf : FrOk f) :
    Calls Tryz.prog 78 #[.agg (encF f).toArray] w fun e w' => e = .returned (.bool (decide (f.lim ≤ 1099511627776))) ∧ Below w.heap.size w w' := by
  obtain ⟨kd, sid, off, vd, fin, lim, code, fnl, seq, dly, vr, c0, c1, c2, c3, c4, c5, c6, c7⟩ := f
  obtain rfl : kd = 16 := hk
  have hsid := hf.sid
  have hlim := hf.lim
  have hcode := hf.code
  have hfnl := hf.fnl
  simp only at hsid hlim hcode hfnl
  simp only [encF]
  clear hf
  obtain ⟨g, hg⟩ : ∃ g, decide (lim ≤ 1099511627776) = g := ⟨_, rfl⟩
  have hgi : decide ((lim : Int) ≤ 1099511627776) = g := by rw [← hg]; exact decide_eq_decide.2 (by omega)
  rw [hg]
  clear hg
  go_enter Tryz.func78, Tryz.ntmps78
  go_wp2_with fail
  go_ret
  exact ⟨rfl, (Below.refl _ _).alloc (Nat.le_refl _) _⟩
set_option maxRecDepth 100000 in
set_option maxHeartbeats 1000000 in
theorem right_17 (f : Fr) (w : World) (hk : f.kd = 17) (hf : FrOk f) :
    Calls Tryz.prog 78 #[.agg (encF f).toArray] w fun e w' => e = .returned (.bool (inB [f.sid] && decide (f.lim ≤ 1099511627776))) ∧ Below w.heap.size w w' := by
  obtain ⟨kd, sid, off, vd, fin, lim, code, fnl, seq, dly, vr, c0, c1, c2, c3, c4, c5, c6, c7⟩ := f
  obtain rfl : kd = 17 := hk
  have hsid := hf.sid
  have hlim := hf.lim
  have hcode := hf.code
  have hfnl := hf.fnl
  simp only at hsid hlim hcode hfnl
  simp only [encF]
  clear hf
  obtain ⟨g, hg⟩ : ∃ g, decide (lim ≤ 1099511627776) = g := ⟨_, rfl⟩
  have hgi : decide ((lim : Int) ≤ 1099511627776) = g := by rw [← hg]; exact decide_eq_decide.2 (by omega)
  rw [hg]
  clear hg
  obtain ⟨o, ho⟩ : ∃ o, inB [sid] = o := ⟨_, rfl⟩
  rw [ho]
  have HO := Lib.hid ho
  clear ho
  go_enter Tryz.func78, Tryz.ntmps78
  go_wp2_with fail
  have hav := (Below.refl w.heap.size w).alloc (Nat.le_refl _) (.cells #[.int .i64 17, .int .u64 sid, .int .u64 off, vd, .bool fin, .int .u64 lim, .int .u64 code, .int .u64 fnl, .int .u64 seq, .int .u64 dly, vr,
    .int .u8 c0, .int .u8 c1, .int .u8 c2, .int .u8 c3, .int .u8 c4, .int .u8 c5, .int .u8 c6, .int .u8 c7] 46)
  generalize hw1 : w.alloc (.cells #[.int .i64 17, .int .u64 sid, .int .u64 off, vd, .bool fin, .int .u64 lim, .int .u64 code, .int .u64 fnl, .int .u64 seq, .int .u64 dly, vr,
    .int .u8 c0, .int .u8 c1, .int .u8 c2, .int .u8 c3, .int .u8 c4, .int .u8 c5, .int .u8 c6, .int .u8 c7] 46) = w1 at *
  have e5 : w1.cell? ⟨w.heap.size, 5, none⟩ = some (.int .u64 lim) := by rw [← hw1]; exact (cell_at (alloc_at _ _) 5).trans rfl
  have hs1 : w1.heap.size = w.heap.size + 1 := by rw [← hw1]; simp
  clear hw1
  have e6 : (w1.alloc (.cells #[.int .u64 sid] 27)).cell? ⟨w.heap.size, 5, none⟩ = some (.int .u64 lim) := (cell_keep ((Below.refl _ _).alloc (Nat.le_refl _) _) (by omega) e5)
  have HB := Lib.hid (hav.alloc (by omega) (.cells #[.int .u64 sid] 27))
  have HV := Lib.hid (lit_vwaU (fp := fun _ => False) (w := w1.alloc (.cells #[.int .u64 sid] 27)) (n := 1) (c := 1) (xs := [sid]) (alloc_at _ _) rfl (fun q => q) rfl (by omega) (by omega))
  rw [← hs1]
  refine (in_any _ [sid] _ _ (by exact HV.out.vw) (by simp; omega)).mono ?_
  rw [HO.out]
  rintro e w2 ⟨rfl, rfl⟩
  clear hs1 hav HV HO e5
  cases o
  all_goals go_wp2_with fail
  all_goals go_ret
  all_goals exact ⟨rfl, HB.out⟩
end Go.Proofs.YtnneoeimgbemfaaGreat

/- DERIVED. octet's Done, frame's Encode of one frame, Size. -/
namespace Go.Proofs.YtnneoeimgbemfaaGreat
open Go.RowKit

set_option maxRecDepth 100000 in
set_option maxHeartbeats 1000000 in
theorem wdone_any (p : Nat) (bs : List Nat) (fp : Nat → Prop) (w : World) (h : WrAt w p bs fp) (hl : bs.length ≤ 1000000) :
    Calls Tryz.prog 80 #[.pointer (some ⟨p, 0, none⟩)] w fun e w' => ∃ v og, e = .returned v ∧ SlG encB 5 w' v og bs ∧ (∀ g, og = some g → w.heap.size ≤ g) ∧ Below w.heap.size w w' := by
  obtain ⟨v, og, h, rfl⟩ := h
  have H := Lib.hid h
  have c0 : w.cell? ⟨p, 0, none⟩ = some v := (cell_at H.out.blk 0).trans rfl
  clear h
  go_enter Tryz.func80, Tryz.ntmps80
  go_wp2_with fail
  refine (cloneB_any v bs _ (by exact H.out.sl.vw) (Nat.le_refl _) (by omega)).mono ?_
  rintro e w1 ⟨v1, og1, rfl, hs, hg, hb⟩
  have HS := Lib.hid hs
  have HG := Lib.hid hg
  have HB := Lib.hid hb
  clear hs hg hb c0
  go_wp2_with fail
  go_ret
  exact ⟨_, og1, rfl, HS.out, HG.out, HB.out⟩
/-- What Encode gives of one frame. -/
def EncQ (w w' : World) (v : Value) (g : Bool) (B : List Nat) : Prop := ∃ og, SlG encB 5 w' v og (if g then B else []) ∧ (∀ b, og = some b → w.heap.size ≤ b) ∧ Below w.heap.size w w'
theorem setRow_below {B : Nat} {a w : World} {g : Nat} {cs : Array Value} (h : Below B a w) (hg : B ≤ g) : Below B a (w.setRow g cs) :=
  h.trans ⟨rfl, rfl, rfl, by simp, fun k hk => setRow_other w g k cs (by omega)⟩
set_option maxRecDepth 100000 in
set_option maxHeartbeats 2000000 in
theorem enc_one (f : Fr) (g : Bool) (B : List Nat) (q : Nat) (w : World) (hq : w.heap[q]? = some (.cells (encF f).toArray 46 (0, 0))) (hB : B.length ≤ 1000) {od od2 : Option Addr} {ln cd ln2 cd2 : Nat} (hvd : f.vd = .slice od ln cd) (hvr : f.vr = .slice od2 ln2 cd2)
    (hR : ∀ w : World, Calls Tryz.prog 78 #[.agg (encF f).toArray] w fun e w' => e = .returned (.bool g) ∧ Below w.heap.size w w')
    (hP : ∀ (w : World) (p : Nat) (fp : Nat → Prop), WrAt w p [] fp → Calls Tryz.prog 79 #[.pointer (some ⟨p, 0, none⟩), .agg (encF f).toArray] w fun e w' => e = .returned (.tuple #[]) ∧ ∃ fp', WrAt w' p B fp' ∧ Went fp fp' w w') :
    Calls Tryz.prog 61 #[.slice (some ⟨q, 0, none⟩) 1 1] w fun e w' => ∃ v, e = .returned (.tuple #[v, .int .i64 (if g then 0 else 1)]) ∧ EncQ w w' v g B := by
  have HR := Lib.hid hR
  have HP := Lib.hid hP
  have HQ := Lib.hid hq
  obtain ⟨kd, sid, off, vd, fin, lim, code, fnl, seq, dly, vr, c0, c1, c2, c3, c4, c5, c6, c7⟩ := f
  simp only [encF] at HR HP HQ
  simp only at hvd hvr
  subst hvd hvr
  clear hR hP hq
  go_enter Tryz.func61, Tryz.ntmps61
  go_wp2_with fail
  refine (wnew_q _).mono ?_
  rintro e w1 ⟨rfl, hw1, hb1⟩
  have HW1 := Lib.hid hw1
  have HB1 := Lib.hid hb1
  have HQ1 := Lib.hid (below_keeps hb1 HQ.out (heap_lt HQ.out))
  clear hw1 hb1
  go_wp2_with fail
  go_loopw [10] (fun i wr => (i = .int .i64 0 ∧ wr = w1) ∨ (g = true ∧ i = .int .i64 1 ∧ ∃ fp', WrAt wr w.heap.size B fp' ∧ (∀ k, fp' k → w.heap.size ≤ k) ∧ Below w.heap.size w wr)) (fun i _ => 1 - (intOf i).toNat)
  case atStart => exact .inl ⟨rfl, rfl⟩
  case round =>
    rcases hrel with ⟨rfl, rfl⟩ | ⟨rfl, rfl, hrel⟩
    · go_upto_region 4 with fail
      go_cut [6] (fun v wx => ∃ z, v = .pointer (some ⟨z, 0, none⟩) ∧ wr.heap.size ≤ z ∧ Below wr.heap.size wr wx ∧ wx.heap[z]? = some (.cells #[.int .i64 kd, .int .u64 sid, .int .u64 off, .slice od ln cd, .bool fin, .int .u64 lim, .int .u64 code, .int .u64 fnl, .int .u64 seq, .int .u64 dly, .slice od2 ln2 cd2,
        .int .u8 c0, .int .u8 c1, .int .u8 c2, .int .u8 c3, .int .u8 c4, .int .u8 c5, .int .u8 c6, .int .u8 c7] 46 (0, 0)))
      case first =>
        go_wp2_with (first
          | refine wpList_load_row rfl 46 (.tmp 12) rfl q rfl 46 _ (0, 0) _ (by exact HQ1.out) Tryz.underlying46 rfl (by rw [sizeF]; rfl) ?_
          | refine wpList_store_row rfl 46 (.tmp 6) (.tmp 13) rfl _ _ rfl rfl 46 _ (alloc_at _ _) (by rw [sizeF]; rfl) rfl (by simp [Value.oneCell']) ?_)
        go_meet
        case rel => exact ⟨_, rfl, Nat.le_refl _, setRow_below ((Below.refl _ _).alloc (Nat.le_refl _) _) (Nat.le_refl _), setRow_heap _ _ _ _ _ _ (alloc_at _ _)⟩
      case rest =>
        obtain ⟨z, rfl, hz, hb2, hkz⟩ := hcut
        generalize wc = w2 at *
        have HZ := Lib.hid hkz
        have HZ1 := Lib.hid hz
        have HB2 := Lib.hid hb2
        have HW2 := Lib.hid (HW1.out.below hb2)
        clear hz hb2 HW1
        go_wp2_with (refine wpList_load_row rfl 46 (.tmp 6) rfl z rfl 46 _ (0, 0) _ (by exact hkz) Tryz.underlying46 rfl (by rw [sizeF]; rfl) ?_)
        clear hkz
        refine (HR.out _).mono ?_
        rintro e w3 ⟨rfl, hb3⟩
        have HZ3 := Lib.hid (below_keeps hb3 HZ.out (heap_lt HZ.out))
        have HW3 := Lib.hid (HW2.out.below hb3)
        have HB3 := Lib.hid (below_call (below_call HB1.out HB1.out.size HB2.out) (Nat.le_trans HB1.out.size HB2.out.size) hb3)
        clear hb3 HZ HW2 HR
        cases g
        · go_wp2_with fail
          go_ret2
          exact ⟨_, rfl, none, SlG.nil _, by simp, HB3.out⟩
        · go_wp2_with (refine wpList_load_row rfl 46 (.tmp 6) rfl z rfl 46 _ (0, 0) _ (by exact HZ3.out) Tryz.underlying46 rfl (by rw [sizeF]; rfl) ?_)
          refine (HP.out _ _ _ (by exact HW3.out)).mono ?_
          rintro e w4 ⟨rfl, fp4, hw4, ht4⟩
          have HF4 := Lib.hid (show ∀ k, fp4 k → w.heap.size ≤ k from fun k hk => by
            have h3 := HB3.out.size
            rcases ht4.new k hk with q | q
            · rcases q with q | q
              · omega
              · cases q
            · omega)
          have HB4 := Lib.hid (Upd.belowOf HB3.out ht4.upd (fun k hk q => by
            rcases q with q | q
            · omega
            · cases q))
          have HW4 := Lib.hid hw4
          clear hw4 ht4 HW3 HZ3
          go_wp2_with fail
          go_roundw
          case rel => exact .inr ⟨trivial, rfl, fp4, HW4.out, HF4.out, HB4.out⟩
          case measure => simp [intOf]
    · obtain ⟨fp4, hw4, hf4, hb4⟩ := hrel
      have HW4 := Lib.hid hw4
      have HB4 := Lib.hid hb4
      clear hw4 hf4 hb4 HW1 HQ1
      go_wp2_with fail
      refine (wdone_any _ B fp4 _ (by exact HW4.out) (by omega)).mono ?_
      rintro e w5 ⟨v5, og5, rfl, hs, hg, hb⟩
      have h4 := HB4.out.size
      have HE := Lib.hid (show EncQ w w5 v5 true B from ⟨og5, hs, fun b hb => by have := hg b hb; omega, below_call HB4.out h4 hb⟩)
      clear hs hg hb
      go_wp2_with fail
      go_ret2
      exact ⟨_, rfl, HE.out⟩
set_option maxRecDepth 100000 in
set_option maxHeartbeats 2000000 in
theorem size_any (f : Fr) (g : Bool) (B : List Nat) (w : World) (hB : B.length ≤ 1000) {od od2 : Option Addr} {ln cd ln2 cd2 : Nat} (hvd : f.vd = .slice od ln cd) (hvr : f.vr = .slice od2 ln2 cd2)
    (hR : ∀ w : World, Calls Tryz.prog 78 #[.agg (encF f).toArray] w fun e w' => e = .returned (.bool g) ∧ Below w.heap.size w w')
    (hP : ∀ (w : World) (p : Nat) (fp : Nat → Prop), WrAt w p [] fp → Calls Tryz.prog 79 #[.pointer (some ⟨p, 0, none⟩), .agg (encF f).toArray] w fun e w' => e = .returned (.tuple #[]) ∧ ∃ fp', WrAt w' p B fp' ∧ Went fp fp' w w') :
    Calls Tryz.prog 44 #[.agg (encF f).toArray] w fun e w' => e = .returned (.int .i64 (if g then B.length else 0)) ∧ Below w.heap.size w w' := by
  have HE := Lib.hid (fun q w hq => enc_one f g B q w hq hB hvd hvr hR hP)
  obtain ⟨n, hn⟩ : ∃ n : Nat, (if g then B else []).length = n := ⟨_, rfl⟩
  have hn2 : (if g then (B.length : Int) else 0) = (n : Int) := by rw [← hn]; cases g <;> rfl
  rw [hn2]
  have HN := Lib.hid hn
  clear hn hn2 hR hP
  obtain ⟨kd, sid, off, vd, fin, lim, code, fnl, seq, dly, vr, c0, c1, c2, c3, c4, c5, c6, c7⟩ := f
  simp only [encF] at HE ⊢
  simp only at hvd hvr
  subst hvd hvr
  go_enter Tryz.func44, Tryz.ntmps44
  go_upto_region 0 with fail
  go_cut [1] (fun v wx => ∃ z, v = .pointer (some ⟨z, 0, none⟩) ∧ w.heap.size ≤ z ∧ Below w.heap.size w wx ∧ wx.heap[z]? = some (.cells #[.int .i64 kd, .int .u64 sid, .int .u64 off, .slice od ln cd, .bool fin, .int .u64 lim, .int .u64 code, .int .u64 fnl, .int .u64 seq, .int .u64 dly, .slice od2 ln2 cd2,
    .int .u8 c0, .int .u8 c1, .int .u8 c2, .int .u8 c3, .int .u8 c4, .int .u8 c5, .int .u8 c6, .int .u8 c7] 46 (0, 0)))
  case first =>
    go_wp2_with fail
    go_meet
    case rel => exact ⟨_, rfl, Nat.le_refl _, (Below.refl _ _).alloc (Nat.le_refl _) _, alloc_at _ _⟩
  case rest =>
    obtain ⟨z, rfl, hz, hb1, hkz⟩ := hcut
    generalize wc = w1 at *
    have HB1 := Lib.hid hb1
    clear hb1 hz
    go_wp2_with (refine wpList_load_row rfl 46 (.tmp 1) rfl z rfl 46 _ (0, 0) _ (by exact hkz) Tryz.underlying46 rfl (by rw [sizeF]; rfl) ?_)
    clear hkz
    refine (HE.out _ _ (alloc_at _ _)).mono ?_
    rintro e w2 ⟨v, rfl, og, hs, hg, hb⟩
    have h1 := HB1.out.size
    have HB2 := Lib.hid (below_call (HB1.out.alloc HB1.out.size _) (by simp; omega) hb)
    obtain ⟨oa, cap, rfl, hc1, hc2⟩ := hs.shape
    rw [HN.out] at hc1 ⊢
    clear hs hg hb
    go_wp2_with fail
    all_goals go_ret
    all_goals exact ⟨rfl, HB2.out⟩
def bytes4 (f : Fr) : List Nat := varB 4 ++ varsB [f.sid, f.code, f.fnl]
def right4 (f : Fr) : Bool := inB [f.sid, f.code] && decide (f.fnl ≤ 1099511627776)
theorem size_4 (f : Fr) (w : World) (hk : f.kd = 4) (hf : FrOk f) (hq : f.seq < 18446744073709551616) {od od2 : Option Addr} {ln cd ln2 cd2 : Nat} (hvd : f.vd = .slice od ln cd) (hvr : f.vr = .slice od2 ln2 cd2) :
    Calls Tryz.prog 44 #[.agg (encF f).toArray] w fun e w' => e = .returned (.int .i64 (if right4 f then (bytes4 f).length else 0)) ∧ Below w.heap.size w w' :=
  size_any f (right4 f) (bytes4 f) w (by unfold bytes4; rw [List.length_append, varB_len]; have h1 := vsize_le 4; have h2 := varsB_len [f.sid, f.code, f.fnl]; simp only [List.length_cons, List.length_nil] at h2; omega) hvd hvr (fun w => right_4 f w hk hf)
    (fun w p fp h => put_4 p [] fp f w h hk hf hq (by simp))
def bytes5 (f : Fr) : List Nat := varB 5 ++ varsB [f.sid, f.code]
def right5 (f : Fr) : Bool := inB [f.sid, f.code]
theorem size_5 (f : Fr) (w : World) (hk : f.kd = 5) (hf : FrOk f) (hq : f.seq < 18446744073709551616) {od od2 : Option Addr} {ln cd ln2 cd2 : Nat} (hvd : f.vd = .slice od ln cd) (hvr : f.vr = .slice od2 ln2 cd2) :
    Calls Tryz.prog 44 #[.agg (encF f).toArray] w fun e w' => e = .returned (.int .i64 (if right5 f then (bytes5 f).length else 0)) ∧ Below w.heap.size w w' :=
  size_any f (right5 f) (bytes5 f) w (by unfold bytes5; rw [List.length_append, varB_len]; have h1 := vsize_le 5; have h2 := varsB_len [f.sid, f.code]; simp only [List.length_cons, List.length_nil] at h2; omega) hvd hvr (fun w => right_5 f w hk hf)
    (fun w p fp h => put_5 p [] fp f w h hk hf hq (by simp))
def bytes16 (f : Fr) : List Nat := varB 16 ++ varsB [f.lim]
def right16 (f : Fr) : Bool := decide (f.lim ≤ 1099511627776)
theorem size_16 (f : Fr) (w : World) (hk : f.kd = 16) (hf : FrOk f) (hq : f.seq < 18446744073709551616) {od od2 : Option Addr} {ln cd ln2 cd2 : Nat} (hvd : f.vd = .slice od ln cd) (hvr : f.vr = .slice od2 ln2 cd2) :
    Calls Tryz.prog 44 #[.agg (encF f).toArray] w fun e w' => e = .returned (.int .i64 (if right16 f then (bytes16 f).length else 0)) ∧ Below w.heap.size w w' :=
  size_any f (right16 f) (bytes16 f) w (by unfold bytes16; rw [List.length_append, varB_len]; have h1 := vsize_le 16; have h2 := varsB_len [f.lim]; simp only [List.length_cons, List.length_nil] at h2; omega) hvd hvr (fun w => right_16 f w hk hf)
    (fun w p fp h => put_16 p [] fp f w h hk hf hq (by simp))
def bytes17 (f : Fr) : List Nat := varB 17 ++ varsB [f.sid, f.lim]
def right17 (f : Fr) : Bool := inB [f.sid] && decide (f.lim ≤ 1099511627776)
theorem size_17 (f : Fr) (w : World) (hk : f.kd = 17) (hf : FrOk f) (hq : f.seq < 18446744073709551616) {od od2 : Option Addr} {ln cd ln2 cd2 : Nat} (hvd : f.vd = .slice od ln cd) (hvr : f.vr = .slice od2 ln2 cd2) :
    Calls Tryz.prog 44 #[.agg (encF f).toArray] w fun e w' => e = .returned (.int .i64 (if right17 f then (bytes17 f).length else 0)) ∧ Below w.heap.size w w' :=
  size_any f (right17 f) (bytes17 f) w (by unfold bytes17; rw [List.length_append, varB_len]; have h1 := vsize_le 17; have h2 := varsB_len [f.sid, f.lim]; simp only [List.length_cons, List.length_nil] at h2; omega) hvd hvr (fun w => right_17 f w hk hf)
    (fun w p fp h => put_17 p [] fp f w h hk hf hq (by simp))
end Go.Proofs.YtnneoeimgbemfaaGreat
