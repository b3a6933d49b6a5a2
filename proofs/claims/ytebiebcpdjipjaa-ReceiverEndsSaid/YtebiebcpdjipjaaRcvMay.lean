/- DERIVED. Walks of receiver's New, State, Limit, End, sized, Highest, May. -/
import Derived.Test.YtebiebcpdjipjaaRcvS
import Derived.Deep.DeepCutAuto
import Derived.Laws.Rows
namespace Go.Proofs.Ytebiebcpdjipjaa
open Go.RowKit

set_option maxRecDepth 100000 in
set_option maxHeartbeats 1000000 in
theorem rnew_any (id win : Nat) (w : World) (hid : id < 18446744073709551616) (hw : win < 18446744073709551616) :
    Calls Try.prog 7 #[.int .u64 id, .int .u64 win] w fun e w' => ∃ r, e = .returned (.pointer (some ⟨r, 0, none⟩)) ∧ RMine w w' r (RS.new id win) := by
  obtain ⟨m, hm, hm2⟩ : ∃ m, min win 2048 = m ∧ m ≤ 2048 := ⟨_, rfl, by omega⟩
  have HM := Lib.hid hm
  have HB := Lib.hid (And.intro hid hw)
  go_enter Try.func7, Try.ntmps7
  go_upto_region 1 with fail
  go_cut [1] (fun v wx => v = .int .u64 m ∧ wx = w)
  case first =>
    by_cases h : 2048 < win
    · obtain rfl : m = 2048 := by omega
      clear hm
      go_wp2_with fail
      go_meet
      case rel => exact ⟨rfl, rfl⟩
    · obtain rfl : win = m := by omega
      clear hm HM
      go_wp2_with fail
      go_meet
      case rel => exact ⟨by first | rfl | (congr 1; omega), rfl⟩
  case rest =>
    obtain ⟨rfl, rfl⟩ := hcut
    clear hm
    go_wp2_with fail
    refine (bnew_any _).mono ?_
    rintro e w1 ⟨b, fp, rfl, hi, hn, hb⟩
    have HI := Lib.hid (And.intro hi (And.intro hn hb))
    clear hi hn hb
    go_wp2_with fail
    go_ret
    obtain ⟨hi, hn, hb⟩ := HI.out
    have hlt := hi.lt.2
    have ha := (Below.refl w1.heap.size w1)
    refine ⟨w1.heap.size, rfl, _, ⟨b, fp, ⟨?_, hi.below ((Below.refl _ _).alloc (Nat.le_refl _) _), fun q => by have := hlt _ q; omega, ⟨HB.out.1, by show min win 2048 ≤ _; omega, ⟨by show 1 ≤ 1; omega, by show 1 ≤ 6; omega⟩, ?_, by show 0 < _; omega, by show 0 ≤ _; omega⟩⟩, rfl⟩, ?_, hb.alloc hb.size _⟩
    · refine (alloc_at _ _).trans ?_
      simp only [rcells, RS.new, HM.out, stopF, IB.zero]
      rfl
    · show min win 2048 ≤ _
      omega
    · rintro k (rfl | q)
      · exact hb.size
      · exact hn k q
set_option maxHeartbeats 1000000 in
theorem rstate_q (r : Nat) (s : RS) (fp : Nat → Prop) (w : World) (h : RAt w r s fp) : Calls Try.prog 13 #[.pointer (some ⟨r, 0, none⟩)] w fun e w' => e = .returned (.int .i64 s.st) ∧ ∃ n, w' = w.drewN n := by
  obtain ⟨_, _, c, _⟩ := h.cells
  clear h
  go_enter Try.func13, Try.ntmps13
  go_wp2_with fail
  go_ret
  exact ⟨rfl, 0, rfl⟩
set_option maxHeartbeats 1000000 in
theorem rlimit_q (r : Nat) (s : RS) (fp : Nat → Prop) (w : World) (h : RAt w r s fp) : Calls Try.prog 16 #[.pointer (some ⟨r, 0, none⟩)] w fun e w' => e = .returned (.int .u64 s.lim) ∧ ∃ n, w' = w.drewN n := by
  obtain ⟨_, _, _, c, _⟩ := h.cells
  clear h
  go_enter Try.func16, Try.ntmps16
  go_wp2_with fail
  go_ret
  exact ⟨rfl, 0, rfl⟩
theorem RAt.ptr {fp : Nat → Prop} {w : World} {r : Nat} {s : RS} (h : RAt w r s fp) : ∃ b fb, IbAt w b s.ib fb ∧ (∀ j, fb j → fp j) ∧ w.cell? ⟨r, 4, none⟩ = some (.pointer (some ⟨b, 0, none⟩)) := by
  obtain ⟨b, fb, h, rfl⟩ := h
  exact ⟨b, fb, h.buf, fun j hj => .inr hj, (cell_at h.blk 4).trans rfl⟩
set_option maxHeartbeats 1000000 in
theorem rhigh_q (r : Nat) (s : RS) (fp : Nat → Prop) (w : World) (h : RAt w r s fp) : Calls Try.prog 17 #[.pointer (some ⟨r, 0, none⟩)] w fun e w' => e = .returned (.int .u64 s.high) ∧ ∃ n, w' = w.drewN n := by
  obtain ⟨_, _, c2, _, _, c6⟩ := h.cells
  obtain ⟨b, fb, hb, _, c4⟩ := h.ptr
  have HB := Lib.hid hb
  clear h hb
  by_cases h5 : 5 ≤ s.st
  · have e : s.high = s.fnl := if_pos h5
    rw [e]
    clear e
    generalize s.st = st at *
    go_enter Try.func17, Try.ntmps17
    go_wp2_with fail
    go_ret
    exact ⟨rfl, 0, rfl⟩
  · have e : s.high = s.ib.hi := if_neg h5
    rw [e]
    clear e
    generalize s.st = st at *
    go_enter Try.func17, Try.ntmps17
    go_wp2_with fail
    refine (bhigh_q b s.ib fb _ (by exact HB.out)).mono ?_
    rintro e w1 ⟨rfl, q, rfl⟩
    go_wp2_with fail
    go_ret
    exact ⟨rfl, q, rfl⟩
set_option maxHeartbeats 1000000 in
theorem rtaken_q (r : Nat) (s : RS) (fp : Nat → Prop) (w : World) (h : RAt w r s fp) : Calls Try.prog 18 #[.pointer (some ⟨r, 0, none⟩)] w fun e w' => e = .returned (.int .u64 s.taken) ∧ ∃ n, w' = w.drewN n := by
  obtain ⟨_, _, c2, _, _, c6⟩ := h.cells
  obtain ⟨b, fb, hb, _, c4⟩ := h.ptr
  have HB := Lib.hid hb
  clear h hb
  by_cases h5 : 5 ≤ s.st
  · have e : s.taken = s.fnl := if_pos h5
    rw [e]
    clear e
    generalize s.st = st at *
    go_enter Try.func18, Try.ntmps18
    go_wp2_with fail
    go_ret
    exact ⟨rfl, 0, rfl⟩
  · have e : s.taken = s.ib.rd := if_neg h5
    rw [e]
    clear e
    generalize s.st = st at *
    go_enter Try.func18, Try.ntmps18
    go_wp2_with fail
    refine (bread_q b s.ib fb _ (by exact HB.out)).mono ?_
    rintro e w1 ⟨rfl, q, rfl⟩
    go_wp2_with fail
    go_ret
    exact ⟨rfl, q, rfl⟩
set_option maxHeartbeats 1000000 in
theorem rsized_q (r : Nat) (s : RS) (fp : Nat → Prop) (w : World) (h : RAt w r s fp) : Calls Try.prog 42 #[.pointer (some ⟨r, 0, none⟩)] w fun e w' => e = .returned (.tuple #[.int .u64 s.szn, .bool s.szd]) ∧ ∃ n, w' = w.drewN n := by
  obtain ⟨_, _, c2, _, _, c6⟩ := h.cells
  obtain ⟨b, fb, hb, _, c4⟩ := h.ptr
  have HB := Lib.hid hb
  clear h hb
  by_cases h5 : 5 ≤ s.st
  · have e : s.szn = s.fnl ∧ s.szd = true := ⟨if_pos h5, if_pos h5⟩
    rw [e.1, e.2]
    clear e
    generalize s.st = st at *
    go_enter Try.func42, Try.ntmps42
    go_wp2_with fail
    go_ret2
    exact ⟨rfl, 0, rfl⟩
  · have e : s.szn = s.ib.fin ∧ s.szd = s.ib.kn := ⟨if_neg h5, if_neg h5⟩
    rw [e.1, e.2]
    clear e
    generalize s.st = st at *
    go_enter Try.func42, Try.ntmps42
    go_wp2_with fail
    refine (bfinal_q b s.ib fb _ (by exact HB.out)).mono ?_
    rintro e w1 ⟨rfl, q, rfl⟩
    go_wp2_with fail
    go_ret2
    exact ⟨rfl, q, rfl⟩
set_option maxRecDepth 100000 in
set_option maxHeartbeats 1000000 in
theorem rend_any (f : Fr) (od : Option Addr) (n cd : Nat) (w : World) (hv : f.vd = .slice od n cd) (hn : n ≤ 9223372036854775807) (ho : f.off < 18446744073709551616) :
    Calls Try.prog 41 #[.agg (encF f).toArray] w fun e w' => e = .returned (.int .u64 (endOf f n)) ∧ Below w.heap.size w w' := by
  simp only [encF, hv]
  by_cases hk : f.kd = 4
  · have e : endOf f n = f.fnl := if_pos hk
    rw [e, hk]
    clear hv hk e
    go_enter Try.func41, Try.ntmps41
    go_wp2_with fail
    go_ret
    exact ⟨rfl, (Below.refl _ _).alloc (Nat.le_refl _) _⟩
  · have e : endOf f n = min f.off 4611686018427387903 + n := if_neg hk
    rw [e]
    obtain ⟨m, hm⟩ : ∃ m, min f.off 4611686018427387903 = m := ⟨_, rfl⟩
    obtain ⟨z, hz, hz2⟩ : ∃ z : Nat, (m : Int) + (n : Int) = (z : Int) ∧ m + n = z := ⟨m + n, by omega, rfl⟩
    rw [hm, hz2]
    have hzb : z ≤ 13835058055282163710 := by omega
    have hwn : IntKind.u64.wrap (n : Int) = n := IntWalk.u64_in _ (by omega)
    have hwz : IntKind.u64.wrap (z : Int) = z := IntWalk.u64_in _ (by omega)
    have hkb : (f.kd == 4) = false := by simpa using hk
    clear hv e hz2
    by_cases hmo : 4611686018427387903 < f.off
    · obtain rfl : m = 4611686018427387903 := by omega
      have hz' : (4611686018427387903 : Int) + (n : Int) = (z : Int) := by omega
      clear hm hz
      go_enter Try.func41, Try.ntmps41
      go_wp2_with fail
      go_ret
      exact ⟨by first | rfl | (congr 2; omega), (Below.refl _ _).alloc (Nat.le_refl _) _⟩
    · have hmm : f.off = m := by omega
      rw [hmm] at hmo ⊢
      clear hm hmm
      have hmi : ¬ (4611686018427387903 : Int) < (m : Int) := by omega
      go_enter Try.func41, Try.ntmps41
      go_wp2_with fail
      go_ret
      exact ⟨by first | rfl | (congr 2; omega), (Below.refl _ _).alloc (Nat.le_refl _) _⟩
theorem sizeF : (Try.prog.info? 35).map (·.size) = some 19 := by kernel_rfl
set_option maxRecDepth 100000 in
set_option maxHeartbeats 4000000 in
theorem rmay_any (r : Nat) (s : RS) (fp : Nat → Prop) (f : Fr) (od : Option Addr) (n cd : Nat) (w : World) (h : RAt w r s fp) (hf : FrOk f) (hv : f.vd = .slice od n cd) (hn : n ≤ 9223372036854775807) :
    Calls Try.prog 22 #[.pointer (some ⟨r, 0, none⟩), .agg (encF f).toArray] w fun e w' => e = .returned (.int .i64 (s.may f n)) ∧ Below w.heap.size w w' := by
  obtain ⟨kd, sid, off, vd, fin, lim, code, fnl, seq, dly, vr, c0, c1, c2, c3, c4, c5, c6, c7⟩ := f
  obtain rfl : vd = .slice od n cd := hv
  obtain ⟨id, hid⟩ : ∃ id, s.id = id := ⟨_, rfl⟩
  have H := Lib.hid h
  have hst := h.ok.st
  obtain ⟨st, hst0⟩ : ∃ st, s.st = st := ⟨_, rfl⟩
  rw [hst0] at hst
  obtain ⟨lm, hlm⟩ : ∃ lm, s.lim = lm := ⟨_, rfl⟩
  have hoff := hf.off
  obtain ⟨hkd1, hkd2⟩ := hf.kd
  simp only at hoff hkd1 hkd2
  have HE := Lib.hid (fun w => rend_any ⟨kd, sid, off, .slice od n cd, fin, lim, code, fnl, seq, dly, vr, c0, c1, c2, c3, c4, c5, c6, c7⟩ od n cd w rfl hn hoff)
  obtain ⟨q, hq⟩ : ∃ q, s.may ⟨kd, sid, off, .slice od n cd, fin, lim, code, fnl, seq, dly, vr, c0, c1, c2, c3, c4, c5, c6, c7⟩ n = q := ⟨_, rfl⟩
  obtain ⟨E, hE⟩ : ∃ E, endOf ⟨kd, sid, off, .slice od n cd, fin, lim, code, fnl, seq, dly, vr, c0, c1, c2, c3, c4, c5, c6, c7⟩ n = E := ⟨_, rfl⟩
  obtain ⟨la, hla⟩ : ∃ la, (decide (kd = 4) || fin) = la := ⟨_, rfl⟩
  have HQ := Lib.hid (show (if sid ≠ id ∨ (kd ≠ 8 ∧ kd ≠ 4) then 1 else if lm < E then 23 else if kd = 8 ∧ st < 5 ∧ 512 < n then 1
      else if (s.szd = true ∧ (s.szn < E ∨ (la = true ∧ E ≠ s.szn))) ∨ (la = true ∧ E < s.high) then 30 else 0) = q from by
    rw [← hq, ← hE, ← hla, ← hid, ← hst0, ← hlm]
    rfl)
  rw [hq]
  simp only [encF, hE] at HE ⊢
  have HLA := Lib.hid hla
  have HC := Lib.hid (show ∀ W, Below w.heap.size w W → W.cell? ⟨r, 0, none⟩ = some (.int .u64 id) ∧ W.cell? ⟨r, 2, none⟩ = some (.int .i64 st) ∧ W.cell? ⟨r, 3, none⟩ = some (.int .u64 lm) from fun W hb => by
    obtain ⟨e0, _, e2, e3, _, _⟩ := (H.out.below hb).cells
    rw [hid] at e0
    rw [hst0] at e2
    rw [hlm] at e3
    exact ⟨e0, e2, e3⟩)
  obtain ⟨szn, hszn⟩ : ∃ x, s.szn = x := ⟨_, rfl⟩
  obtain ⟨szd, hszd⟩ : ∃ x, s.szd = x := ⟨_, rfl⟩
  obtain ⟨hi, hhi⟩ : ∃ x, s.high = x := ⟨_, rfl⟩
  rw [hszn, hszd, hhi] at HQ
  have HSZ := Lib.hid (And.intro hszn (And.intro hszd hhi))
  clear h hf hq hE hla hid hst0 hlm hszn hszd hhi
  go_enter Try.func22, Try.ntmps22
  go_upto_region 0 with fail
  go_cut [3] (fun v wx => ∃ z, v = .pointer (some ⟨z, 0, none⟩) ∧ Below w.heap.size w wx ∧ wx.heap[z]? = some (.cells #[.int .i64 kd, .int .u64 sid, .int .u64 off, .slice od n cd, .bool fin, .int .u64 lim, .int .u64 code, .int .u64 fnl, .int .u64 seq, .int .u64 dly, vr,
    .int .u8 c0, .int .u8 c1, .int .u8 c2, .int .u8 c3, .int .u8 c4, .int .u8 c5, .int .u8 c6, .int .u8 c7] 35 (0, 0)))
  case first =>
    as_aux_lemma =>
      go_wp2_with fail
      go_meet
      case rel => exact ⟨_, rfl, (Below.refl _ _).alloc (Nat.le_refl _) _, alloc_at _ _⟩
  case rest =>
    as_aux_lemma =>
      obtain ⟨z, rfl, hb1, hkz⟩ := hcut
      generalize wc = w1 at *
      have HB1 := Lib.hid hb1
      have HKZ := Lib.hid hkz
      obtain ⟨e0, e2, e3⟩ := HC.out _ hb1
      have z0 := (cell_at hkz 0).trans (by rfl : _ = some (Value.int .i64 kd))
      have z1 := (cell_at hkz 1).trans (by rfl : _ = some (Value.int .u64 sid))
      clear hb1 hkz
      obtain ⟨b1, hb1⟩ : ∃ b1, decide (sid ≠ id ∨ (kd ≠ 8 ∧ kd ≠ 4)) = b1 := ⟨_, rfl⟩
      have HB := Lib.hid hb1
      clear hb1
      go_upto_region 1 with fail
      go_cut [25] (fun v wx => v = .bool b1 ∧ ∃ q, wx = w1.drewN q)
      case first =>
        as_aux_lemma =>
          by_cases h1 : sid = id
          · rcases (by omega : kd = 8 ∨ (kd = 4) ∨ (¬ kd = 8 ∧ ¬ kd = 4)) with h2 | h2 | ⟨h2, h3⟩
            · have e : b1 = false := by rw [← HB.out]; simp [h1, h2]
              subst e h1 h2
              go_wp2_with fail
              go_quiet (fail)
              go_wp2_with fail
              go_meet
              case rel => exact ⟨by first | rfl | simp, _, rfl⟩
            · have e : b1 = false := by rw [← HB.out]; simp [h1, h2]
              subst e h1 h2
              go_wp2_with fail
              go_quiet (fail)
              go_wp2_with fail
              go_meet
              case rel => exact ⟨by first | rfl | simp, _, rfl⟩
            · have e : b1 = true := by rw [← HB.out]; simp [h2, h3]
              subst e h1
              have h2j : (kd != 8) = true := by simp [bne, h2]
              have h2k : (kd != 4) = true := by simp [bne, h3]
              clear h2 h3
              go_wp2_with fail
              go_quiet (fail)
              go_wp2_with fail
              go_meet
              case rel => exact ⟨by first | rfl | simp, _, rfl⟩
          · have e : b1 = true := by rw [← HB.out]; simp [h1]
            subst e
            have h1i : ((sid : Int) == (id : Int)) = false := by rw [eqN]; simp [h1]
            have h1j : ((sid : Int) != (id : Int)) = true := by simp only [bne, h1i]; rfl
            clear h1
            go_wp2_with fail
            go_quiet (fail)
            go_wp2_with fail
            go_meet
            case rel => exact ⟨by first | rfl | simp, _, rfl⟩
      case rest =>
        as_aux_lemma =>
          obtain ⟨rfl, x, rfl⟩ := hcut
          have HB1' := Lib.hid (below_drewN HB1.out x)
          have HKZ' := Lib.hid (show (w1.drewN x).heap[z]? = _ from HKZ.out)
          clear e0 e2 e3 z0 z1 HB1 HKZ
          generalize w1.drewN x = w2 at *
          obtain ⟨e0, e2, e3⟩ := HC.out _ HB1'.out
          cases b1
          · have hne : ¬ (sid ≠ id ∨ (kd ≠ 8 ∧ kd ≠ 4)) := by simpa using HB.out
            have HQ2 := Lib.hid ((if_neg hne).symm.trans HQ.out)
            clear hne HQ HB
            have hkz := HKZ'.out
            go_wp2_with (refine wpList_load_row rfl 35 (.tmp 3) rfl z rfl 35 _ (0, 0) _ (by exact hkz) Try.underlying35 rfl (by rw [sizeF]; rfl) ?_)
            clear hkz
            refine (HE.out _).mono ?_
            rintro e w3 ⟨rfl, hb3⟩
            have HB3 := Lib.hid (below_call HB1'.out HB1'.out.size hb3)
            have HKZ3 := Lib.hid (below_keeps hb3 HKZ'.out (heap_lt HKZ'.out))
            have H3 := Lib.hid (H.out.below HB3.out)
            clear hb3 e0 e2 e3 HKZ' HB1'
            go_wp2_with fail
            refine (rsized_q r s fp _ (by exact H3.out)).mono ?_
            rw [HSZ.out.1, HSZ.out.2.1]
            rintro e w4 ⟨rfl, y, rfl⟩
            have HB4 := Lib.hid (below_drewN HB3.out y)
            have HKZ4 := Lib.hid (show (w3.drewN y).heap[z]? = _ from HKZ3.out)
            have H4 := Lib.hid (H3.out.drewN y)
            clear HB3 HKZ3 H3
            generalize w3.drewN y = w4 at *
            obtain ⟨_, e2, e3⟩ := HC.out _ HB4.out
            have z0 := (cell_at HKZ4.out 0).trans (by rfl : _ = some (Value.int .i64 kd))
            have z3 := (cell_at HKZ4.out 3).trans (by rfl : _ = some (Value.slice od n cd))
            have z4 := (cell_at HKZ4.out 4).trans (by rfl : _ = some (Value.bool fin))
            go_upto_region 5 with fail
            go_cut [8] (fun v wx => v = .bool la ∧ wx = w4)
            case first =>
              as_aux_lemma =>
                by_cases hk : kd = 4
                · have e : la = true := by rw [← HLA.out]; simp [hk]
                  subst e hk
                  go_wp2_with fail
                  go_meet
                  case rel => exact ⟨rfl, rfl⟩
                · have e : la = fin := by rw [← HLA.out]; simp [hk]
                  subst e
                  have hkb : (kd == 4) = false := by simpa using hk
                  clear hk
                  go_wp2_with fail
                  go_meet
                  case rel => exact ⟨rfl, rfl⟩
            case rest =>
              as_aux_lemma =>
                obtain ⟨rfl, rfl⟩ := hcut
                clear z4 HE HKZ4
                generalize wc = w4 at *
                by_cases g1 : lm < E
                · have e : q = 23 := by rw [← HQ2.out, if_pos g1]
                  subst e
                  have g1i : (lm : Int) < (E : Int) := by omega
                  go_wp2_with fail
                  go_ret
                  exact ⟨rfl, HB4.out⟩
                · have g1i : ¬ (lm : Int) < (E : Int) := by omega
                  have HQ3 := Lib.hid ((if_neg g1).symm.trans HQ2.out)
                  clear HQ2
                  obtain ⟨b2, hb2⟩ : ∃ b2, decide (kd = 8 ∧ st < 5 ∧ 512 < n) = b2 := ⟨_, rfl⟩
                  have HB2 := Lib.hid hb2
                  clear hb2
                  go_upto_region 8 with fail
                  go_cut [47] (fun v wx => v = .bool b2 ∧ wx = w4)
                  case first =>
                    as_aux_lemma =>
                      by_cases k1 : kd = 8
                      · subst k1
                        by_cases k2 : st < 5
                        · have k2i : (st : Int) < 5 := by omega
                          by_cases k3 : 512 < n
                          · have e : b2 = true := by rw [← HB2.out]; simp [k2, k3]
                            subst e
                            have k3i : (512 : Int) < (n : Int) := by omega
                            go_wp2_with fail
                            go_meet
                            case rel => exact ⟨by first | rfl | simp, rfl⟩
                          · have e : b2 = false := by rw [← HB2.out]; simp [k3]
                            subst e
                            have k3i : ¬ (512 : Int) < (n : Int) := by omega
                            go_wp2_with fail
                            go_meet
                            case rel => exact ⟨by first | rfl | simp, rfl⟩
                        · have e : b2 = false := by rw [← HB2.out]; simp [k2]
                          subst e
                          have k2i : ¬ (st : Int) < 5 := by omega
                          go_wp2_with fail
                          go_meet
                          case rel => exact ⟨by first | rfl | simp, rfl⟩
                      · have e : b2 = false := by rw [← HB2.out]; simp [k1]
                        subst e
                        have k1b : (kd == 8) = false := by simpa using k1
                        go_wp2_with fail
                        go_meet
                        case rel => exact ⟨by first | rfl | simp, rfl⟩
                  case rest =>
                    as_aux_lemma =>
                      obtain ⟨rfl, rfl⟩ := hcut
                      clear z0 z3 e2 e3
                      generalize wc = w4 at *
                      cases b2
                      · have k0 : ¬ (kd = 8 ∧ st < 5 ∧ 512 < n) := by simpa using HB2.out
                        have HQ4 := Lib.hid ((if_neg k0).symm.trans HQ3.out)
                        clear k0 HQ3 HB2
                        obtain ⟨b3, hb3⟩ : ∃ b3, (szd && (decide (szn < E) || (la && decide (E ≠ szn)))) = b3 := ⟨_, rfl⟩
                        have HB3 := Lib.hid hb3
                        clear hb3
                        go_upto_region 10 with fail
                        go_cut [64] (fun v wx => v = .bool b3 ∧ wx = w4)
                        case first =>
                          as_aux_lemma =>
                            cases szd
                            · have e : b3 = false := by rw [← HB3.out]; rfl
                              subst e
                              go_wp2_with fail
                              go_meet
                              case rel => exact ⟨by first | rfl | simp, rfl⟩
                            · rcases (by omega : szn < E ∨ szn = E ∨ E < szn) with k1 | k1 | k1
                              · have e : b3 = true := by rw [← HB3.out]; simp [k1]
                                subst e
                                have k1i : (szn : Int) < (E : Int) := by omega
                                go_wp2_with fail
                                go_meet
                                case rel => exact ⟨by first | rfl | simp, rfl⟩
                              · subst k1
                                have e : b3 = false := by rw [← HB3.out]; simp
                                subst e
                                cases la
                                all_goals go_wp2_with fail
                                all_goals go_meet
                                all_goals (case rel => exact ⟨by first | rfl | trivial | simp, by first | rfl | trivial⟩)
                              · have k1i : ¬ (szn : Int) < (E : Int) := by omega
                                have k1n : ¬ szn < E := by omega
                                have hne : ¬ E = szn := by omega
                                have k1b : ((E : Int) == (szn : Int)) = false := by rw [eqN]; simp [hne]
                                have k1j : ((E : Int) != (szn : Int)) = true := by simp only [bne, k1b]; rfl
                                have e : b3 = la := by rw [← HB3.out]; simp [k1n, hne]
                                subst e
                                clear hne
                                cases b3
                                all_goals go_wp2_with fail
                                all_goals go_meet
                                all_goals (case rel => exact ⟨by first | rfl | trivial | simp, by first | rfl | trivial⟩)
                        case rest =>
                          as_aux_lemma =>
                            obtain ⟨rfl, rfl⟩ := hcut
                            generalize wc = w4 at *
                            cases b3
                            · have hnb : ¬ (szd = true ∧ (szn < E ∨ (la = true ∧ E ≠ szn))) := by
                                have := HB3.out
                                simpa using this
                              have HQ5 := Lib.hid (show (if la = true ∧ E < hi then 30 else 0) = q from by
                                rw [← HQ4.out]
                                by_cases y : la = true ∧ E < hi
                                · rw [if_pos y, if_pos (.inr y)]
                                · rw [if_neg y, if_neg (fun z => z.elim hnb y)])
                              clear hnb HQ4 HB3
                              cases la
                              · have e : q = 0 := by rw [← HQ5.out]; rfl
                                subst e
                                go_wp2_with fail
                                go_ret
                                exact ⟨rfl, HB4.out⟩
                              · go_wp2_with fail
                                refine (rhigh_q r s fp _ (by exact H4.out)).mono ?_
                                rw [HSZ.out.2.2]
                                rintro e w5 ⟨rfl, y, rfl⟩
                                have HB5 := Lib.hid (below_drewN HB4.out y)
                                generalize w4.drewN y = w5 at *
                                by_cases k1 : E < hi
                                · have e : q = 30 := by rw [← HQ5.out, if_pos (by simpa using k1)]
                                  subst e
                                  have k1i : (E : Int) < (hi : Int) := by omega
                                  go_wp2_with fail
                                  go_ret
                                  exact ⟨rfl, HB5.out⟩
                                · have e : q = 0 := by rw [← HQ5.out, if_neg (fun z => k1 z.2)]
                                  subst e
                                  have k1i : ¬ (E : Int) < (hi : Int) := by omega
                                  go_wp2_with fail
                                  go_ret
                                  exact ⟨rfl, HB5.out⟩
                            · have e : q = 30 := by
                                rw [← HQ4.out]
                                have := HB3.out
                                rw [if_pos (.inl (by simpa using this))]
                              subst e
                              go_wp2_with fail
                              go_ret
                              exact ⟨rfl, HB4.out⟩
                      · have k0 : (kd = 8 ∧ st < 5 ∧ 512 < n) := by simpa using HB2.out
                        have e : q = 1 := by rw [← HQ3.out, if_pos k0]
                        subst e
                        clear k0
                        go_wp2_with fail
                        go_ret
                        exact ⟨rfl, HB4.out⟩
          · have e : q = 1 := by
              rw [← HQ.out, if_pos (by simpa using HB.out)]
            subst e
            go_wp2_with fail
            go_ret
            exact ⟨rfl, HB1'.out⟩
end Go.Proofs.Ytebiebcpdjipjaa
