/- DERIVED. Walk of outbuf's Next, where no piece goes: nothing, or the end alone. -/
import Derived.Deep.DeepCutAuto
import Derived.Laws.BitsLemmas
import Derived.Test.YtncfbaabhceeoaaQK3
import Derived.Test.YtncfbaabhceeoaaQK10
import Derived.Test.YtncfbaabhceeoaaQK11
import Derived.Test.YtncfbaabhceeoaaQK12
import Derived.Test.YtncfbaabhceeoaaQK13
import Derived.Test.YtncfbaabhceeoaaQK15
set_option linter.all false
namespace Go.Proofs.Ytncfbaabhceeoaa
open Go.RowKit

theorem slen_n (b : Nat) (og : Option Nat) (xs : List Rg) (w : World) (h : SetAt w b many og xs) (n : Nat) (hn : xs.length = n) : Calls Try.prog 58 #[.pointer (some ⟨b, 0, none⟩)] w fun e w' => e = .returned (.int .i64 n) ∧ ∃ n, w' = w.drewN n := by
  rw [← hn]
  exact slen_q b many og xs w h
set_option maxRecDepth 100000 in
set_option maxHeartbeats 2000000 in
theorem onext_none (b : Nat) (s : OS) (fp : Nat → Prop) (most : Int) (limit f t0 : Nat) (w : World) (h : OAt w b s fp) (hlim : limit < 18446744073709551616) (hpt : s.part limit = (f, t0)) (hft : f ≤ t0) (ht : min t0 (f + most.toNat) = f) (ht0 : t0 ≤ 1099511627776) (hno : s.ys = [] → s.sent = s.B.length → s.ende = false) (hm1 : -9223372036854775808 ≤ most) (hm : most ≤ 9223372036854775807) :
    Calls Try.prog 39 #[.pointer (some ⟨b, 0, none⟩), .int .i64 most, .int .u64 limit] w
      fun e w' => e = .returned (.tuple #[.int .u64 0, .slice none 0 0, .bool false, .bool false]) ∧ Below w.heap.size w w' := by
  have H := Lib.hid h
  have HPT := Lib.hid hpt
  have HNO := Lib.hid hno
  obtain ⟨mo, hmo⟩ : ∃ mo, most.toNat = mo := ⟨_, rfl⟩
  rw [hmo] at ht
  have hmb : mo ≤ 9223372036854775807 := by omega
  have hmm : max 0 most = (mo : Int) := by omega
  clear h hpt hno
  go_enter Try.func39, Try.ntmps39
  go_wp2_with fail
  refine (opart_any b s fp limit _ (by exact H.out) hlim HPT.out).mono ?_
  rintro e w1 ⟨rfl, hb⟩
  have HB := Lib.hid hb
  clear hb
  go_upto_region 2 with fail
  go_cut [11] (fun v wx => v = .int .u64 f ∧ wx = w1)
  case first =>
    have hwm : IntKind.u64.wrap (mo : Int) = mo := IntWalk.u64_in _ (by omega)
    obtain ⟨z, hz, hzt⟩ : ∃ z : Nat, (f : Int) + (mo : Int) = (z : Int) ∧ f + mo = z := ⟨f + mo, by omega, rfl⟩
    have hzb : (z : Int) < 18446744073709551616 := by omega
    have hwz : IntKind.u64.wrap (z : Int) = z := IntWalk.u64_in _ (by omega)
    rw [hzt] at ht
    rcases (by omega : (z < t0 ∧ f = z) ∨ (t0 < z ∧ f = t0) ∨ (t0 = z ∧ f = t0)) with ⟨q1, q3⟩ | ⟨q1, q3⟩ | ⟨q1, q3⟩
    all_goals rcases (by omega : (most < 0 ∧ mo = 0) ∨ (most = 0 ∧ mo = 0) ∨ (0 < most ∧ most = (mo : Int))) with ⟨p1, p2⟩ | ⟨p1, p2⟩ | ⟨p1, p2⟩
    all_goals clear ht
    all_goals first | omega | skip
    all_goals try subst p1
    all_goals try subst p2
    all_goals try subst q3
    all_goals try subst q1
    all_goals try clear hmo hmm hmb hm hm1
    all_goals go_wp2_with fail
    all_goals go_meet
    all_goals (case rel => exact ⟨by first | rfl | (congr 1; congr 1; omega), rfl⟩)
  case rest =>
    obtain ⟨rfl, rfl⟩ := hcut
    generalize wc = w1 at *
    have H1 := Lib.hid (H.out.below HB.out)
    obtain ⟨vb, ob, c, oc, d, od, hO, hfp⟩ := H1.out
    obtain ⟨e1, e2, e3, e6, e7, e8, e9⟩ := H1.out.cells
    have c5 : w1.cell? ⟨b, 5, none⟩ = some (.pointer (some ⟨d, 0, none⟩)) := (cell_at hO.blk 5).trans rfl
    have HO := Lib.hid hO
    have HSL := Lib.hid (show ∀ W, Below w1.heap.size w1 W → W.cell? ⟨b, 5, none⟩ = some (.pointer (some ⟨d, 0, none⟩)) ∧ W.cell? ⟨b, 2, none⟩ = some (.int .u64 s.B.length) ∧ W.cell? ⟨b, 3, none⟩ = some (.int .u64 s.sent) from fun W h => by
      have hk := below_keeps h hO.blk (heap_lt hO.blk)
      exact ⟨(cell_at hk 5).trans rfl, (cell_at hk 2).trans rfl, (cell_at hk 3).trans rfl⟩)
    have hlen := hO.ok.len
    have hsl := hO.ok.sent
    have hyl := hO.ok.ly
    have HNO' := Lib.hid (show s.ys.length = 0 → ¬ s.sent < s.B.length → s.ende = false from fun h1 h2 => HNO.out (by simpa using h1) (by omega))
    obtain ⟨n, hn⟩ : ∃ n, s.ys.length = n := ⟨_, rfl⟩
    have HN := Lib.hid hn
    rw [hn] at hyl HNO'
    generalize hse : s.sent = sent at *
    generalize hle : s.B.length = len at *
    generalize hee : s.ende = en at *
    have HE := Lib.hid hee
    clear hO hfp HNO hse hle hn hee hmm hmo
    have hffi : ((f : Int) == (f : Int)) = true := by simp
    rcases (by omega : (0 < n) ∨ (n = 0 ∧ sent < len) ∨ (n = 0 ∧ ¬ sent < len)) with q1 | ⟨q1, q2⟩ | ⟨q1, q2⟩
    · have q1i : (0 : Int) < (n : Int) := by omega
      go_wp2_with fail
      go_quiet ((go_at_call 58; exact Calls.quiet_of (slen_n d od _ _ (by exact HO.out.sy.below (below_drewN (Below.refl _ _) _)) n HN.out)))
      go_wp2_with fail
      (try simp only [Exit.inBlock, Exit.then])
      refine bodyPost_ret (results_tmp4 rfl _ _ _) rfl ?_
      exact ⟨rfl, below_drewN HB.out _⟩
    · subst q1
      have q2i : (sent : Int) < (len : Int) := by omega
      go_wp2_with fail
      go_quiet ((go_at_call 58; exact Calls.quiet_of (slen_n d od _ _ (by exact HO.out.sy.below (below_drewN (Below.refl _ _) _)) 0 HN.out)))
      go_wp2_with fail
      (try simp only [Exit.inBlock, Exit.then])
      refine bodyPost_ret (results_tmp4 rfl _ _ _) rfl ?_
      exact ⟨rfl, below_drewN HB.out _⟩
    · subst q1
      have q2i : ¬ (sent : Int) < (len : Int) := by omega
      have hen : en = false := HNO'.out rfl q2
      subst hen
      go_wp2_with fail
      go_quiet (first | (go_at_call 58; exact Calls.quiet_of (slen_n d od _ _ (by exact HO.out.sy.below (below_drewN (Below.refl _ _) _)) 0 HN.out)) | (go_at_call 59; exact Calls.quiet_of (oend_e b s _ _ (by exact H1.out.drewN _) HE.out)))
      go_wp2_with fail
      (try simp only [Exit.inBlock, Exit.then])
      refine bodyPost_ret (results_tmp4 rfl _ _ _) rfl ?_
      exact ⟨rfl, below_drewN HB.out _⟩
set_option maxRecDepth 100000 in
set_option maxHeartbeats 2000000 in
theorem onext_end (b : Nat) (s : OS) (fp : Nat → Prop) (most : Int) (limit : Nat) (w : World) (h : OAt w b s fp) (hlim : limit < 18446744073709551616) (hy : s.ys = []) (hsl0 : s.sent = s.B.length) (hen : s.ende = true) (hm1 : -9223372036854775808 ≤ most) (hm : most ≤ 9223372036854775807) :
    Calls Try.prog 39 #[.pointer (some ⟨b, 0, none⟩), .int .i64 most, .int .u64 limit] w
      fun e w' => e = .returned (.tuple #[.int .u64 s.B.length, .slice none 0 0, .bool true, .bool true]) ∧ OM w w' fp b { s with es := true, el := false } := by
  have H := Lib.hid h
  obtain ⟨f, hf⟩ : ∃ f, s.sent = f := ⟨_, rfl⟩
  obtain ⟨t0, hpt, ht1⟩ : ∃ t0, s.part limit = (f, t0) ∧ t0 = f := ⟨f, by unfold OS.part; rw [hy]; show (s.sent, _) = _; rw [hf, show max f (min limit s.B.length) = f by omega], rfl⟩
  have ht0 : t0 ≤ 1099511627776 := by have := h.ok.len; omega
  have ht : min t0 (f + most.toNat) = f := by omega
  have HPT := Lib.hid hpt
  have HY := Lib.hid hy
  have HSL0 := Lib.hid (show s.B.length = f by omega)
  have HSF := Lib.hid hf
  have HEN := Lib.hid hen
  obtain ⟨mo, hmo⟩ : ∃ mo, most.toNat = mo := ⟨_, rfl⟩
  rw [hmo] at ht
  have hmb : mo ≤ 9223372036854775807 := by omega
  have hmm : max 0 most = (mo : Int) := by omega
  rw [← hsl0, hf]
  clear h hpt hy hen hf hsl0
  go_enter Try.func39, Try.ntmps39
  go_wp2_with fail
  refine (opart_any b s fp limit _ (by exact H.out) hlim HPT.out).mono ?_
  rintro e w1 ⟨rfl, hb⟩
  have HB := Lib.hid hb
  clear hb
  go_upto_region 2 with fail
  go_cut [11] (fun v wx => v = .int .u64 f ∧ wx = w1)
  case first =>
    have hwm : IntKind.u64.wrap (mo : Int) = mo := IntWalk.u64_in _ (by omega)
    obtain ⟨z, hz, hzt⟩ : ∃ z : Nat, (f : Int) + (mo : Int) = (z : Int) ∧ f + mo = z := ⟨f + mo, by omega, rfl⟩
    have hzb : (z : Int) < 18446744073709551616 := by omega
    have hwz : IntKind.u64.wrap (z : Int) = z := IntWalk.u64_in _ (by omega)
    rw [hzt] at ht
    rcases (by omega : (z < t0 ∧ f = z) ∨ (t0 < z ∧ f = t0) ∨ (t0 = z ∧ f = t0)) with ⟨q1, q3⟩ | ⟨q1, q3⟩ | ⟨q1, q3⟩
    all_goals rcases (by omega : (most < 0 ∧ mo = 0) ∨ (most = 0 ∧ mo = 0) ∨ (0 < most ∧ most = (mo : Int))) with ⟨p1, p2⟩ | ⟨p1, p2⟩ | ⟨p1, p2⟩
    all_goals clear ht
    all_goals first | omega | skip
    all_goals try subst p1
    all_goals try subst p2
    all_goals try subst q3
    all_goals try subst q1
    all_goals try clear hmo hmm hmb hm hm1
    all_goals go_wp2_with fail
    all_goals go_meet
    all_goals (case rel => exact ⟨by first | rfl | (congr 1; congr 1; omega), rfl⟩)
  case rest =>
    obtain ⟨rfl, rfl⟩ := hcut
    generalize wc = w1 at *
    have H1 := Lib.hid (H.out.below HB.out)
    obtain ⟨vb, ob, c, oc, d, od, hO, hfp⟩ := H1.out
    obtain ⟨e1, e2, e3, e6, e7, e8, e9⟩ := H1.out.cells
    have c5 : w1.cell? ⟨b, 5, none⟩ = some (.pointer (some ⟨d, 0, none⟩)) := (cell_at hO.blk 5).trans rfl
    have HO := Lib.hid hO
    rw [HSL0.out] at e2
    rw [HSF.out] at e3
    have HWf := Lib.hid (show Went fp (OFp b c d ob oc od) w w1 from by
      rw [← hfp]
      exact Went.first HB.out (Went.refl fp w1))
    clear hO hfp hmm hmo
    have hffi : ((f : Int) == (f : Int)) = true := by simp
    have hff : ¬ (f : Int) < (f : Int) := by omega
    go_wp2_with fail
    go_quiet (first | (go_at_call 58; exact Calls.quiet_of (slen_n d od _ _ (by exact HO.out.sy.below (below_drewN (Below.refl _ _) _)) 0 (by rw [HY.out]; rfl))) | (go_at_call 59; exact Calls.quiet_of (oend_e b s _ _ (by exact H1.out.drewN _) HEN.out)))
    generalize hW5 : World.drewN w1 _ = w5
    have HM5 := Lib.hid (show OM w w5 fp b s from by rw [← hW5]; exact OM.drewN ⟨_, ⟨vb, ob, c, oc, d, od, HO.out, rfl⟩, HWf.out⟩ _)
    clear HO HWf e1 e2 e3 e6 e7 e8 e9 c5 H1 HB H HPT
    clear hW5
    obtain ⟨fp5, hoa5, hw5⟩ := HM5.out
    obtain ⟨vb5, ob5, c5', oc5, d5, od5, hO5, hfp5⟩ := hoa5
    rw [hfp5] at hw5
    have e2 : w5.cell? ⟨b, 2, none⟩ = some (.int .u64 f) := by rw [cell_at hO5.blk, ← HSL0.out]; rfl
    have f7 := free_at hO5.blk 7
    have f9 := free_at hO5.blk 9
    have e7 := cell_at hO5.blk 7
    have e9 := cell_at hO5.blk 9
    have e79 := cell_at (set_at hO5.blk 7 (.bool true)) 9
    have e72 : (w5.setCell ⟨b, 7, none⟩ (.bool true)).cell? ⟨b, 2, none⟩ = some (.int .u64 f) := by rw [cell_at (set_at hO5.blk 7 (.bool true)), ← HSL0.out]; rfl
    simp only [List.getElem?_toArray, List.getElem?_cons_succ, List.getElem?_cons_zero, Array.setIfInBounds] at e7 e9 e79
    have f79 := free_at (set_at hO5.blk 7 (.bool true)) 9
    have HMY := Lib.hid (show OM w ((w5.setCell ⟨b, 7, none⟩ (.bool true)).setCell ⟨b, 9, none⟩ (.bool false)) fp b { s with es := true, el := false } from om_set hO5 hw5 (Upd.refl _ _) (((Upd.refl (fun j => j = b) w5).setCell ⟨b, 7, none⟩ (.inl rfl) _).setCell ⟨b, 9, none⟩ (.inl rfl) _) (set_at (set_at hO5.blk 7 _) 9 _) hO5.row (.inl rfl) rfl rfl
            ⟨hO5.ok.len, hO5.ok.base, hO5.ok.sent, hO5.ok.nx, hO5.ok.ny, hO5.ok.lx, hO5.ok.ly, hO5.ok.bys⟩)
    have e2x : ((w5.setCell ⟨b, 7, none⟩ (.bool true)).setCell ⟨b, 9, none⟩ (.bool false)).cell? ⟨b, 2, none⟩ = some (.int .u64 f) := by rw [cell_at (set_at (set_at hO5.blk 7 (.bool true)) 9 (.bool false)), ← HSL0.out]; rfl
    clear hO5 hw5 hfp5 HM5
    go_wp2_with fail
    (try simp only [Exit.inBlock, Exit.then])
    refine bodyPost_ret (results_tmp4 rfl _ _ _) rfl ?_
    have hm9 := HMY.out
    rw [HSF.out] at hm9
    exact ⟨rfl, hm9⟩
end Go.Proofs.Ytncfbaabhceeoaa

/- DERIVED. SenderEnds' rounds: what Next tells, and what its frame does, lost or acknowledged. -/
namespace Go.Proofs.Ytncfbaabhceeoaa
open Go.RowKit

/-- Between two rounds: k of them are over. -/
def EndR (W w : World) (r n k : Nat) (reset : Bool) : Prop := ∃ s, SdMine W w r s ∧ s.id = 3 ∧ s.os.sent ≤ 200 ∧
  ((1 ≤ s.st ∧ s.st ≤ 4 ∧ s.lim = 1000 ∧ EI s.os n ∧ (s.os.es = true → 3 ≤ s.st) ∧ (s.os.ea = true → 3 ≤ s.st) ∧ (s.os.whole = true → s.st = 4) ∧ k + vv s.os n ≤ 200 + max n 1 ∧ (reset = true → k ≤ 3 ∨ s.st = 4)) ∨
   (reset = true ∧ s.st = 5 ∧ s.rs = some (9, s.os.sent) ∧ s.rq = true ∧ k ≤ 200) ∨
   (reset = true ∧ s.st = 6 ∧ s.rq = false ∧ k ≤ 201))

/-- Behind the Reset. -/
def EndR2 (W w : World) (r n k : Nat) (reset : Bool) : Prop := ∃ s, SdMine W w r s ∧ s.id = 3 ∧ s.os.sent ≤ 200 ∧
  ((1 ≤ s.st ∧ s.st ≤ 4 ∧ s.lim = 1000 ∧ EI s.os n ∧ (s.os.es = true → 3 ≤ s.st) ∧ (s.os.ea = true → 3 ≤ s.st) ∧ (s.os.whole = true → s.st = 4) ∧ k + vv s.os n ≤ 200 + max n 1 ∧ (reset = true → k ≤ 2 ∨ s.st = 4)) ∨
   (reset = true ∧ s.st = 5 ∧ s.rs = some (9, s.os.sent) ∧ s.rq = true ∧ k ≤ 200) ∨
   (reset = true ∧ s.st = 6 ∧ s.rq = false ∧ k ≤ 201))
theorem EndR.two {W w : World} {r n k : Nat} {reset : Bool} (h : EndR W w r n k reset) (hk : ¬ (reset = true ∧ k = 3)) : EndR2 W w r n k reset := by
  obtain ⟨s, h1, h2, h3, h4⟩ := h
  refine ⟨s, h1, h2, h3, ?_⟩
  rcases h4 with ⟨a1, a2, a3, a4, a5, a6, a7, a8, a9⟩ | h | h
  · refine .inl ⟨a1, a2, a3, a4, a5, a6, a7, a8, fun q => ?_⟩
    rcases a9 q with e | e
    · exact .inl (by
        by_cases e3 : k = 3
        · exact absurd ⟨q, e3⟩ hk
        · omega)
    · exact .inr e
  · exact .inr (.inl h)
  · exact .inr (.inr h)
/-- A frame is under way. -/
def MidR (W w : World) (r n k : Nat) (reset : Bool) (f : Fr) : Prop := ∃ s, SdMine W w r s ∧ s.id = 3 ∧ s.os.sent ≤ 200 ∧
  ((∃ od off len cd fin, f = strF 3 off (.slice od len cd) fin ∧ len ≤ 200 ∧ off ≤ 200 ∧ EM s.os n off (off + len) fin ∧ 1 ≤ s.st ∧ s.st ≤ 4 ∧ s.lim = 1000 ∧ (s.os.es = true → 3 ≤ s.st) ∧ (s.os.ea = true → 3 ≤ s.st) ∧ (s.os.whole = true → s.st = 4) ∧ k + vv s.os n ≤ 200 + max n 1 ∧ (reset = true → k ≤ 2 ∨ s.st = 4)) ∨
   (reset = true ∧ s.st = 5 ∧ s.rs = some (9, s.os.sent) ∧ f = resetF 3 s.rs ∧ k ≤ 200))
/-- Nothing is left to send. -/
def DoneS (W w : World) (r st : Nat) : Prop := ∃ s n, SdMine W w r s ∧ s.os.sent ≤ 200 ∧ n ≤ 200 ∧ s.st = st ∧
  ((st = 4 ∧ s.lim = 1000 ∧ EI s.os n ∧ s.os.whole = true) ∨ (st = 6 ∧ s.rq = false))
def DoneR (W w : World) (r : Nat) (reset : Bool) : Prop := ∃ st, (st = 4 ∨ (reset = true ∧ st = 6)) ∧ DoneS W w r st
theorem MidR.later {W w w' : World} {r n k : Nat} {reset : Bool} {f : Fr} (h : MidR W w r n k reset f) (hb : Below w.heap.size w w') : MidR W w' r n k reset f := by
  obtain ⟨s, h1, h2⟩ := h
  exact ⟨s, h1.later hb, h2⟩
theorem DoneS.later {W w w' : World} {r st : Nat} (h : DoneS W w r st) (hb : Below w.heap.size w w') : DoneS W w' r st := by
  obtain ⟨s, n, h1, h2⟩ := h
  exact ⟨s, n, h1.later hb, h2⟩
theorem DoneS.drewN {W w : World} {r st : Nat} (h : DoneS W w r st) (q : Nat) : DoneS W (w.drewN q) r st := h.later (below_drewN (Below.refl _ _) q)
theorem DoneR.later {W w w' : World} {r : Nat} {reset : Bool} (h : DoneR W w r reset) (hb : Below w.heap.size w w') : DoneR W w' r reset := by
  obtain ⟨st, h1, h2⟩ := h
  exact ⟨st, h1, h2.later hb⟩
theorem EI.sent200 {s : OS} {n : Nat} (h : EI s n) : s.sent ≤ n ∧ s.B.length = n ∧ n ≤ 200 := by
  obtain ⟨wt, hc⟩ := h.ci
  have := hc.len
  have := hc.ok.sent
  have := hc.n200
  omega
theorem EM.sent200 {s : OS} {n f t : Nat} {fin : Bool} (h : EM s n f t fin) : s.sent ≤ n ∧ s.B.length = n ∧ n ≤ 200 ∧ (fin = true → s.es = true) := by
  obtain ⟨wt, hc⟩ := h.cm
  have := hc.len
  have := hc.ok.sent
  have := hc.n200
  have := hc.fn
  exact ⟨by omega, by omega, by omega, fun q => (this q).1⟩
theorem part_over {s : OS} {n : Nat} (hy : s.ys = []) (hsn : s.sent = n) (hB : s.B.length = n) (lim : Nat) : s.part lim = (n, n) := by
  unfold OS.part
  rw [hy]
  show (s.sent, max s.sent (min lim s.B.length)) = _
  rw [hsn, hB]
  congr 1
  omega
set_option maxRecDepth 100000 in
theorem done_next (W w : World) (r st : Nat) (room : Int) (hr1 : 20 ≤ room) (hr2 : room ≤ 512) (h : DoneS W w r st) :
    Calls Try.prog 20 #[.pointer (some ⟨r, 0, none⟩), .int .i64 room, .int .u64 (1000 : Nat)] w fun e w' => e = .returned (.tuple #[.agg (encF zeroF).toArray, .bool false]) ∧ DoneS W w' r st := by
  have H := Lib.hid h
  obtain ⟨s, n, ⟨fp, hO, hn, hb⟩, h2, h3, h5, h4⟩ := h
  rcases h4 with ⟨a1, a2, a3, a4⟩ | ⟨a2, a3⟩
  · obtain ⟨b1, b2, b3, b4⟩ := a3.fin a4
    have hl := a3.sent200.2.1
    obtain ⟨m, hm⟩ : ∃ m : Nat, room = (m : Int) + 20 := ⟨(room - 20).toNat, by omega⟩
    refine (snext_no r s fp room 1000 m 1000 w hO (by omega) (by omega) (by omega) (by omega) (by omega) (by rw [a2]; omega) (fun b fb W2 h0 => ?_)).mono ?_
    · refine onext_none b s.os fb m 1000 n n W2 h0 (by omega) (part_over b1 b2 hl 1000) (Nat.le_refl _) (by omega) (by omega) (fun _ _ => b3) (by omega) (by omega)
    · rintro e w' ⟨rfl, hb2⟩
      exact ⟨rfl, H.out.later hb2⟩
  · refine (snext_rno r s fp room 1000 w hO (by omega) (fun q => by rw [a3] at q; cases q) (by omega) (by omega)).mono ?_
    rintro e w' ⟨rfl, hb2⟩
    exact ⟨rfl, H.out.later hb2⟩
/-- Its slices are slices. -/
def FrSl (f : Fr) : Prop := (∃ a b c, f.vd = .slice a b c) ∧ ∃ a b c, f.vr = .slice a b c
theorem resetF_sl (id : Nat) (o : Option (Nat × Nat)) : FrSl (resetF id o) := by
  cases o <;> exact ⟨⟨_, _, _, rfl⟩, ⟨_, _, _, rfl⟩⟩
set_option maxRecDepth 100000 in
theorem ends_next (W w : World) (r n k : Nat) (reset : Bool) (hn200 : n ≤ 200) (h : EndR2 W w r n k reset) :
    Calls Try.prog 20 #[.pointer (some ⟨r, 0, none⟩), .int .i64 (40 : Int), .int .u64 (1000 : Nat)] w fun e w' => ∃ f ok, e = .returned (.tuple #[.agg (encF f).toArray, .bool ok]) ∧ FrSl f ∧
      ((ok = false ∧ DoneR W w' r reset) ∨ (ok = true ∧ MidR W w' r n k reset f)) := by
  obtain ⟨s, ⟨fp, hO, hn, hb⟩, hid, hsn, hph⟩ := h
  rcases hph with ⟨a1, a2, a3, a4, a5, a6, a7, a8, a9⟩ | ⟨hre, hs5, hrs, hrq, hk2⟩ | ⟨hre, hs6, hrq, hk2⟩
  · have hl := a4.sent200.2.1
    have hst3 := a4.ende
    rcases a4.next (k := 20) (by omega) with ⟨f, t0, t, b1, b2, b3, b4, b5, b6, b7, b8⟩ | ⟨b1, b2, b3, b4⟩ | ⟨b1, b2, b3, b4, b5⟩
    · obtain ⟨fin, hfin⟩ : ∃ fin, (decide (t = s.os.B.length) && s.os.ende) = fin := ⟨_, rfl⟩
      refine (snext_yes r s fp 40 1000 20 1000 f fin (s.os.went f t) ((s.os.B.drop f).take (t - f)) w hO (by omega) (by omega) (by omega) (by omega) (by omega) (by rw [a3]; omega) rfl (fun b fb W2 h0 => ?_)).mono ?_
      · rw [← hfin]
        exact onext_go b s.os fb (20 : Nat) 1000 f t0 t W2 h0 (by omega) b1 b2 b3 (by rw [Int.toNat_natCast]; exact b4) (by omega) (by omega) b6 b7 (by omega) (by omega)
      · rintro e w' ⟨v, rfl, hm, og, hsl, hog⟩
        have hdl : ((s.os.B.drop f).take (t - f)).length = t - f := by rw [List.length_take, List.length_drop]; omega
        obtain ⟨od, cd, rfl, hc1, hc2⟩ := hsl.vw.shape
        rw [hdl]
        rw [hid]
        refine ⟨_, _, rfl, ⟨⟨_, _, _, rfl⟩, ⟨_, _, _, rfl⟩⟩, .inr ⟨rfl, _, sdm_mine hn hb hm, hid, ?_, .inl ⟨od, f, t - f, cd, fin, rfl, by omega, by omega, ?_, ?_, ?_, a3, ?_, ?_, ?_, a8, ?_⟩⟩⟩
        · have := (show EM (s.os.went f t) n f t _ from b8).sent200
          show (s.os.went f t).sent ≤ 200
          omega
        · rw [show f + (t - f) = t by omega, ← hfin]
          exact b8
        · show 1 ≤ max (max s.st 2) (if fin then 3 else 0)
          omega
        · show max (max s.st 2) (if fin then 3 else 0) ≤ 4
          split <;> omega
        · intro q
          show 3 ≤ max (max s.st 2) (if fin then 3 else 0)
          have q : (s.os.es || (decide (t = s.os.B.length) && s.os.ende)) = true := q
          rw [hfin] at q
          cases fin
          · have := a5 (by simpa using q)
            omega
          · rw [if_pos rfl]
            omega
        · intro q
          show 3 ≤ max (max s.st 2) (if fin then 3 else 0)
          have := a6 q
          omega
        · intro q
          show max (max s.st 2) (if fin then 3 else 0) = 4
          have := a7 q
          split <;> omega
        · intro q
          show _ ∨ max (max s.st 2) (if fin then 3 else 0) = 4
          rcases a9 q with e | e
          · exact .inl e
          · right
            split <;> omega
    · refine (snext_yes r s fp 40 1000 20 1000 s.os.B.length true { s.os with es := true, el := false } [] w hO (by omega) (by omega) (by omega) (by omega) (by omega) (by rw [a3]; omega) rfl (fun b fb W2 h0 => ?_)).mono ?_
      · refine (onext_end b s.os fb (20 : Nat) 1000 W2 h0 (by omega) b1 (by omega) b3 (by omega) (by omega)).mono ?_
        rintro e w' ⟨rfl, hm⟩
        exact ⟨_, none, rfl, hm, SlG.nil _, fun g q => by cases q⟩
      · rintro e w' ⟨v, rfl, hm, og, hsl, hog⟩
        obtain ⟨od, cd, rfl, hc1, hc2⟩ := hsl.vw.shape
        rw [hl, hid]
        refine ⟨_, _, rfl, ⟨⟨_, _, _, rfl⟩, ⟨_, _, _, rfl⟩⟩, .inr ⟨rfl, _, sdm_mine hn hb hm, hid, hsn, .inl ⟨od, n, 0, cd, true, rfl, by omega, by omega, ?_, ?_, ?_, a3, ?_, ?_, ?_, a8, ?_⟩⟩⟩
        · exact b4
        · show 1 ≤ max (max s.st 2) (if true then 3 else 0)
          omega
        · show max (max s.st 2) (if true then 3 else 0) ≤ 4
          rw [if_pos rfl]
          omega
        · intro q
          show 3 ≤ max (max s.st 2) (if true then 3 else 0)
          rw [if_pos rfl]
          omega
        · intro q
          show 3 ≤ max (max s.st 2) (if true then 3 else 0)
          rw [if_pos rfl]
          omega
        · intro q
          show max (max s.st 2) (if true then 3 else 0) = 4
          have := a7 q
          rw [if_pos rfl]
          omega
        · intro q
          show _ ∨ max (max s.st 2) (if true then 3 else 0) = 4
          rw [if_pos rfl]
          rcases a9 q with e | e
          · exact .inl e
          · right
            omega
    · refine (done_next W w r 4 40 (by omega) (by omega) ⟨s, n, ⟨fp, hO, hn, hb⟩, hsn, hn200, a7 b5, .inl ⟨rfl, a3, a4, b5⟩⟩).mono ?_
      rintro e w' ⟨rfl, hd⟩
      exact ⟨_, _, rfl, ⟨⟨_, _, _, rfl⟩, ⟨_, _, _, rfl⟩⟩, .inl ⟨rfl, _, .inl rfl, hd⟩⟩
  · refine (snext_rst r s fp 40 1000 w hO (by omega) hrq ⟨_, hrs, by have := size4_le (resetF s.id s.rs); omega⟩ (by omega) (by omega)).mono ?_
    rintro e w' ⟨rfl, hm⟩
    refine ⟨_, _, rfl, resetF_sl _ _, .inr ⟨rfl, _, sdm_mine hn hb hm, hid, hsn, .inr ⟨hre, hs5, hrs, ?_, hk2⟩⟩⟩
    show resetF s.id s.rs = resetF 3 s.rs
    rw [hid]
  · refine (done_next W w r 6 40 (by omega) (by omega) ⟨s, n, ⟨fp, hO, hn, hb⟩, hsn, hn200, hs6, .inr ⟨rfl, hrq⟩⟩).mono ?_
    rintro e w' ⟨rfl, hd⟩
    exact ⟨_, _, rfl, ⟨⟨_, _, _, rfl⟩, ⟨_, _, _, rfl⟩⟩, .inl ⟨rfl, _, .inr ⟨hre, rfl⟩, hd⟩⟩
theorem strF_ok {off : Nat} {v : Value} {fin : Bool} (h : off ≤ 200) : FrOk (strF 3 off v fin) :=
  ⟨⟨by show (-9223372036854775808 : Int) ≤ 8; omega, by show (8 : Int) ≤ 9223372036854775807; omega⟩, by show 3 < _; omega, by show off < _; omega, by show 0 < _; omega, by show 0 < _; omega, by show 0 < _; omega⟩
set_option maxRecDepth 100000 in
theorem ends_lost (W w : World) (r n k : Nat) (reset : Bool) (f : Fr) (hk : k < 200) (h : MidR W w r n k reset f) :
    Calls Try.prog 23 #[.pointer (some ⟨r, 0, none⟩), .agg (encF f).toArray] w fun e w' => e = .returned (.tuple #[]) ∧ EndR W w' r n (k + 1) reset := by
  obtain ⟨s, ⟨fp, hO, hn, hb⟩, hid, hsn, hph⟩ := h
  rcases hph with ⟨od, off, len, cd, fin, rfl, hl, ho, a4, a1, a2, a3, a5, a6, a7, a8, a9⟩ | ⟨hre, hs5, hrs, rfl, hk2⟩
  · obtain ⟨b1, b2, b3⟩ := a4.lost
    rw [show off + len - off = len by omega] at b1 b2 b3
    refine (slost_str r s fp (strF 3 off (.slice od len cd) fin) off len cd fin od _ _ w hO (strF_ok ho) rfl hid.symm rfl rfl rfl (by omega) rfl b1 b2 rfl).mono ?_
    rintro e w' ⟨rfl, hm⟩
    refine ⟨rfl, _, sdm_mine hn hb hm, hid, hsn, .inl ⟨a1, a2, a3, b3, a5, a6, a7, ?_, fun q => ?_⟩⟩
    · have := vv_le (s := { s.os with ys := lostY s.os (s.os.lostB (s.os.kn off (len : Nat))) s.os.xs.length, el := s.os.el || (fin && s.os.es) }) (n := n)
      show k + 1 + vv { s.os with ys := lostY s.os (s.os.lostB (s.os.kn off (len : Nat))) s.os.xs.length, el := s.os.el || (fin && s.os.es) } n ≤ _
      omega
    · rcases a9 q with e | e
      · exact .inl (by omega)
      · exact .inr e
  · refine (slost_rst r s fp (resetF 3 s.rs) w hO (by rw [hrs]; rfl) (by rw [hrs, hid]; rfl) hs5).mono ?_
    rintro e w' ⟨rfl, hm⟩
    exact ⟨rfl, _, sdm_mine hn hb hm, hid, hsn, .inr (.inl ⟨hre, hs5, hrs, rfl, by omega⟩)⟩
set_option maxRecDepth 100000 in
theorem ends_ack (W w : World) (r n k : Nat) (reset : Bool) (f : Fr) (h : MidR W w r n k reset f) :
    Calls Try.prog 24 #[.pointer (some ⟨r, 0, none⟩), .agg (encF f).toArray] w fun e w' => e = .returned (.tuple #[]) ∧ EndR W w' r n (k + 1) reset := by
  obtain ⟨s, ⟨fp, hO, hn, hb⟩, hid, hsn, hph⟩ := h
  rcases hph with ⟨od, off, len, cd, fin, rfl, hl, ho, a4, a1, a2, a3, a5, a6, a7, a8, a9⟩ | ⟨hre, hs5, hrs, rfl, hk2⟩
  · obtain ⟨zs, yz, at_, b1, b2, b3, b4, b5, b6, b7, b8, b9, b10, b11⟩ := a4.acked
    rw [show off + len - off = len by omega] at b1 b4
    refine (sack_str r s fp (strF 3 off (.slice od len cd) fin) off len cd fin od zs yz at_ w hO (strF_ok ho) rfl hid.symm rfl rfl rfl (by omega) b4 b5 b1 b2 b3 b6 b7 b8).mono ?_
    rintro e w' ⟨rfl, hm⟩
    have hst : s.st ≤ (s.ackd (s.os.ackG zs yz at_ fin)).st ∧ (s.ackd (s.os.ackG zs yz at_ fin)).st ≤ 4 ∧ (s.st = 3 → (s.os.ackG zs yz at_ fin).whole = true → (s.ackd (s.os.ackG zs yz at_ fin)).st = 4) := by
      unfold SS.ackd
      refine ⟨?_, ?_, fun q1 q2 => ?_⟩
      · show s.st ≤ if _ then 4 else s.st
        split <;> omega
      · show (if _ then 4 else s.st) ≤ 4
        split <;> omega
      · show (if _ then 4 else s.st) = 4
        rw [if_pos ⟨q1, q2⟩]
    have hea : (s.os.ea || (fin && s.os.es)) = true → 3 ≤ s.st := by
      intro q
      simp only [Bool.or_eq_true, Bool.and_eq_true] at q
      rcases q with q | q
      · exact a6 q
      · exact a5 q.2
    refine ⟨rfl, _, sdm_mine hn hb hm, hid, hsn, .inl ⟨by omega, hst.2.1, a3, b9, fun q => ?_, fun q => ?_, fun q => ?_, ?_, fun q => ?_⟩⟩
    · have := a5 q
      omega
    · have := hea q
      omega
    · have q0 : (s.os.ackG zs yz at_ fin).whole = true := q
      have q : ((s.os.ackG zs yz at_ fin).fi && (s.os.ackG zs yz at_ fin).ea && decide ((s.os.ackG zs yz at_ fin).base = (s.os.ackG zs yz at_ fin).B.length)) = true := q
      simp only [Bool.and_eq_true] at q
      have h3 := hea q.1.2
      rcases Nat.lt_or_ge s.st 4 with h4 | h4
      · exact hst.2.2 (by omega) q0
      · omega
    · show k + 1 + vv (s.os.ackG zs yz at_ fin) n ≤ _
      omega
    · rcases a9 q with e | e
      · exact .inl (by omega)
      · exact .inr (by omega)
  · refine (sack_rst r s fp (resetF 3 s.rs) w hO (by rw [hrs]; rfl) (by rw [hrs, hid]; rfl) hs5).mono ?_
    rintro e w' ⟨rfl, hm⟩
    exact ⟨rfl, _, sdm_mine hn hb hm, hid, hsn, .inr (.inr ⟨hre, rfl, rfl, by omega⟩)⟩
/-- The rounds are over. -/
theorem EndR.done {W w : World} {r n k : Nat} {reset : Bool} (hn : n ≤ 200) (hk : 400 ≤ k) (h : EndR W w r n k reset) : DoneR W w r reset := by
  obtain ⟨s, h1, h2, h3, h4⟩ := h
  rcases h4 with ⟨a1, a2, a3, a4, a5, a6, a7, a8, a9⟩ | ⟨_, _, _, _, h⟩ | ⟨_, _, _, h⟩
  · have hw := (a4.over (by omega)).1
    exact ⟨4, .inl rfl, s, n, h1, h3, hn, a7 hw, .inl ⟨rfl, a3, a4, hw⟩⟩
  · omega
  · omega
theorem done_state (W w : World) (r st : Nat) (h : DoneS W w r st) :
    Calls Try.prog 26 #[.pointer (some ⟨r, 0, none⟩)] w fun e w' => e = .returned (.int .i64 st) ∧ ∃ q, w' = w.drewN q := by
  obtain ⟨s, n, ⟨fp, hO, hn, hb⟩, h2, h3, h5, h4⟩ := h
  rw [← h5]
  exact sstate_q r s fp w hO
theorem done_reset (W w : World) (r st : Nat) (h : DoneS W w r st) :
    Calls Try.prog 18 #[.pointer (some ⟨r, 0, none⟩), .int .u64 (1 : Nat)] w fun e w' => e = .returned (.int .i64 (24 : Nat)) ∧ Below W.heap.size W w' := by
  obtain ⟨s, n, ⟨fp, hO, hn, hb⟩, h2, h3, h5, h4⟩ := h
  refine (sreset_any r s fp 1 w hO (by omega)).mono ?_
  have hr : s.rstN 1 = 24 := by
    unfold SS.rstN
    rw [if_pos]
    rcases h4 with h4 | h4
    · omega
    · omega
  rw [hr]
  rintro e wA ⟨rfl, hm⟩
  exact ⟨rfl, (sdm_mine hn hb hm).below⟩
end Go.Proofs.Ytncfbaabhceeoaa

/- DERIVED. SenderKeeps' rounds: what each call does. -/
namespace Go.Proofs.Ytncfbaabhceeoaa
open Go.RowKit

/-- Blocks that a call must leave as they are. -/
abbrev Ext := List (Nat × Obj)
/-- A sender of one's own, a row of one's own beside it, and other blocks. -/
def KA (W w : World) (r : Nat) (s : SS) (v : Value) (L : List Nat) (X : Ext) : Prop := ∃ fp og, SdAt w r s fp ∧ (∀ k, fp k → W.heap.size ≤ k) ∧ Below W.heap.size W w ∧ SlG encB 5 w v og L ∧ (∀ g, og = some g → W.heap.size ≤ g ∧ ¬ fp g) ∧
  ∀ x ∈ X, w.heap[x.1]? = some x.2 ∧ ¬ fp x.1 ∧ og ≠ some x.1
theorem KA.below {W w : World} {r : Nat} {s : SS} {v : Value} {L : List Nat} {X : Ext} (h : KA W w r s v L X) : Below W.heap.size W w := by
  obtain ⟨_, _, _, _, h, _⟩ := h
  exact h
theorem KA.later {W w w' : World} {r : Nat} {s : SS} {v : Value} {L : List Nat} {X : Ext} (h : KA W w r s v L X) (hb : Below w.heap.size w w') : KA W w' r s v L X := by
  obtain ⟨fp, og, h1, h2, h3, h4, h5, h6⟩ := h
  exact ⟨fp, og, h1.below hb, h2, below_call h3 h3.size hb, h4.below hb, h5, fun x hx => ⟨below_keeps hb (h6 x hx).1 (heap_lt (h6 x hx).1), (h6 x hx).2⟩⟩
theorem KA.drewN {W w : World} {r : Nat} {s : SS} {v : Value} {L : List Nat} {X : Ext} (h : KA W w r s v L X) (n : Nat) : KA W (w.drewN n) r s v L X := h.later (below_drewN (Below.refl _ _) n)
theorem KA.drop {W w : World} {r : Nat} {s : SS} {v : Value} {L : List Nat} {X : Ext} (h : KA W w r s v L X) : KA W w r s v L [] := by
  obtain ⟨fp, og, h1, h2, h3, h4, h5, h6⟩ := h
  exact ⟨fp, og, h1, h2, h3, h4, h5, fun x hx => absurd hx (by simp)⟩
/-- A new block beside it. -/
theorem KA.add {W w w' : World} {r z : Nat} {s : SS} {v : Value} {L : List Nat} {X : Ext} {o : Obj} (h : KA W w r s v L X) (hb : Below w.heap.size w w') (hz : w.heap.size ≤ z) (ho : w'.heap[z]? = some o) : KA W w' r s v L ((z, o) :: X) := by
  have hlt := h
  obtain ⟨fp, og, h1, h2, h3, h4, h5, h6⟩ := h
  refine ⟨fp, og, h1.below hb, h2, below_call h3 h3.size hb, h4.below hb, h5, fun x hx => ?_⟩
  rcases List.mem_cons.1 hx with rfl | hx
  · refine ⟨ho, fun q => ?_, fun q => ?_⟩
    · have := h1.lt.2 _ q
      simp only at this
      omega
    · have := h4.lt _ q
      simp only at this
      omega
  · exact ⟨below_keeps hb (h6 x hx).1 (heap_lt (h6 x hx).1), (h6 x hx).2⟩
theorem KA.at {W w : World} {r : Nat} {s : SS} {v : Value} {L : List Nat} {X : Ext} (h : KA W w r s v L X) {x : Nat × Obj} (hx : x ∈ X) : w.heap[x.1]? = some x.2 := by
  obtain ⟨fp, og, h1, h2, h3, h4, h5, h6⟩ := h
  exact (h6 x hx).1
theorem KA.turn {W w w' : World} {r : Nat} {s s' : SS} {v : Value} {L : List Nat} {X : Ext} {fp : Nat → Prop} {og : Option Nat} (h : SdAt w r s fp ∧ (∀ k, fp k → W.heap.size ≤ k) ∧ Below W.heap.size W w ∧ SlG encB 5 w v og L ∧ (∀ g, og = some g → W.heap.size ≤ g ∧ ¬ fp g) ∧
    ∀ x ∈ X, w.heap[x.1]? = some x.2 ∧ ¬ fp x.1 ∧ og ≠ some x.1) (m : SdM w w' fp r s') : KA W w' r s' v L X := by
  obtain ⟨h1, h2, h3, h4, h5, h8⟩ := h
  obtain ⟨fp', h6, h7⟩ := m
  have hs := h3.size
  refine ⟨fp', og, h6, fun k hk => ?_, Upd.belowOf h3 h7.upd (fun k hk q => by have := h2 k q; omega), h4.keeps h7.upd (fun g hg => (h5 g hg).2), fun g hg => ⟨(h5 g hg).1, fun q => ?_⟩, fun x hx => ⟨h7.upd.keeps (h8 x hx).1 (h8 x hx).2.1, fun q => ?_, (h8 x hx).2.2⟩⟩
  · rcases h7.new k hk with q | q
    · exact h2 k q
    · omega
  · rcases h7.new g q with e | e
    · exact (h5 g hg).2 e
    · have := h4.lt g hg
      omega
  · rcases h7.new _ q with e | e
    · exact (h8 x hx).2.1 e
    · have := heap_lt (h8 x hx).1
      omega
/-- Behind a push onto the row. -/
theorem KA.push {W w w' : World} {r : Nat} {s : SS} {v v' : Value} {L L' : List Nat} {X : Ext} {fp : Nat → Prop} {og og' : Option Nat} (h : SdAt w r s fp ∧ (∀ k, fp k → W.heap.size ≤ k) ∧ Below W.heap.size W w ∧ SlG encB 5 w v og L ∧ (∀ g, og = some g → W.heap.size ≤ g ∧ ¬ fp g) ∧
    ∀ x ∈ X, w.heap[x.1]? = some x.2 ∧ ¬ fp x.1 ∧ og ≠ some x.1)
    (hs : SlG encB 5 w' v' og' L') (ho : og' = og ∨ ∃ g, og' = some g ∧ w.heap.size ≤ g) (hu : Upd (fun j => og = some j) w w') : KA W w' r s v' L' X := by
  obtain ⟨h1, h2, h3, h4, h5, h8⟩ := h
  have hs3 := h3.size
  refine ⟨fp, og', h1.keeps hu (fun k hk e => (h5 k e).2 hk), h2, Upd.belowOf h3 hu (fun k hk q => by have := (h5 k q).1; omega), hs, fun g hg => ?_, fun x hx => ⟨hu.keeps (h8 x hx).1 (h8 x hx).2.2, (h8 x hx).2.1, fun q => ?_⟩⟩
  · rcases ho with rfl | ⟨g', rfl, hg'⟩
    · exact h5 g hg
    · cases hg
      exact ⟨by omega, fun q => by have := h1.lt.2 _ q; omega⟩
  · rcases ho with rfl | ⟨g', rfl, hg'⟩
    · exact (h8 x hx).2.2 q
    · cases q
      have := heap_lt (h8 x hx).1
      omega
/-- Between two rounds. -/
structure KI (s : SS) (k : Nat) : Prop where
  id : s.id = 8
  st : 1 ≤ s.st ∧ s.st ≤ 5
  lim : s.lim < 500
  len : s.os.B.length ≤ 60 * k
  gi : GI s.os s.lim
  rs : s.st = 5 → ∃ c, s.rs = some (c, s.os.sent) ∧ c < 100
theorem KI.more {s : SS} {k : Nat} (h : KI s k) : KI s (k + 1) := ⟨h.id, h.st, h.lim, by have := h.len; omega, h.gi, h.rs⟩
theorem KI.new : KI (SS.new 8) 0 := ⟨rfl, ⟨by show 1 ≤ 1; omega, by show 1 ≤ 5; omega⟩, by show 0 < 500; omega, by show 0 ≤ 60 * 0; omega, GI.start _, fun q => by cases q⟩
theorem keep_write (W w : World) (r k : Nat) (s : SS) (v vd : Value) (d : List Nat) {B : Nat} {X : Ext} (h : KA W w r s v s.os.B X) (hi : KI s k) (hk : k < 60) (hd : Vw encB w B vd d) (hB : B ≤ w.heap.size) (hdl : d.length ≤ 60) (hby : Bys d) :
    Calls Try.prog 16 #[.pointer (some ⟨r, 0, none⟩), vd] w fun e w' => ∃ n err : Nat, e = .returned (.tuple #[.int .i64 n, .int .i64 err]) ∧ n ≤ d.length ∧
      ∃ s', KA W w' r s' v s.os.B X ∧ KI s' (k + 1) ∧ s'.lim = s.lim ∧ s'.st = s.st ∧ s'.os.fi = s.os.fi ∧ s'.os.B = s.os.B ++ d.take n ∧ (err ≠ 0 → n = 0) := by
  obtain ⟨fp, og, hA⟩ := h
  have h1 := hA.1
  have hlen := hi.len
  refine (swrite_any r s fp vd d w h1 hd hB hby hi.gi.rm (by omega) (by omega)).mono ?_
  rintro e w' ⟨rfl, hm⟩
  refine ⟨_, _, rfl, ?_, s.wr d, KA.turn hA hm, ?_⟩
  · unfold SS.wrN
    split
    · exact Nat.zero_le _
    · split
      · exact Nat.zero_le _
      · exact Nat.min_le_left _ _
  · unfold SS.wr SS.wrN
    by_cases hc : s.closed = true
    · rw [if_pos hc, if_pos hc]
      exact ⟨hi.more, rfl, rfl, rfl, by simp, fun _ => rfl⟩
    · rw [if_neg hc, if_neg hc]
      have hgi := hi.gi.write hdl (by omega) hby
      have hki : KI { s with os := s.os.write d } (k + 1) := ⟨hi.id, hi.st, hi.lim, by
        show (s.os.write d).B.length ≤ _
        rw [write_len]
        omega, hgi, hi.rs⟩
      by_cases hr : 0 < d.length ∧ s.os.room = 0
      · rw [if_pos hr]
        refine ⟨hki, rfl, rfl, rfl, ?_, fun _ => rfl⟩
        show s.os.B ++ d.take (min d.length s.os.room) = _
        rw [hr.2, Nat.min_zero]
      · rw [if_neg hr]
        exact ⟨hki, rfl, rfl, rfl, rfl, fun q => absurd rfl q⟩
theorem keep_finish (W w : World) (r k : Nat) (s : SS) (v : Value) (L : List Nat) {X : Ext} (h : KA W w r s v L X) (hi : KI s k) :
    Calls Try.prog 17 #[.pointer (some ⟨r, 0, none⟩)] w fun e w' => ∃ err : Nat, e = .returned (.int .i64 err) ∧
      ∃ s', KA W w' r s' v L X ∧ KI s' (k + 1) ∧ s'.lim = s.lim ∧ s'.st = s.st ∧ s'.os.B = s.os.B ∧ s'.os.fi = (decide (err = 0) || s.os.fi) := by
  obtain ⟨fp, og, hA⟩ := h
  have h1 := hA.1
  refine (sfinish_any r s fp w h1).mono ?_
  rintro e w' ⟨rfl, hm⟩
  refine ⟨_, rfl, _, KA.turn hA hm, ?_⟩
  by_cases hc : s.closed = true
  · rw [if_pos hc, if_pos hc]
    exact ⟨hi.more, rfl, rfl, rfl, by simp⟩
  · rw [if_neg hc, if_neg hc]
    exact ⟨⟨hi.id, hi.st, hi.lim, hi.more.len, hi.gi.finish, hi.rs⟩, rfl, rfl, rfl, by simp⟩
theorem keep_reset (W w : World) (r k code : Nat) (s : SS) (v : Value) (L : List Nat) {X : Ext} (h : KA W w r s v L X) (hi : KI s k) (hc : code < 100) :
    Calls Try.prog 18 #[.pointer (some ⟨r, 0, none⟩), .int .u64 code] w fun e w' => ∃ err : Nat, e = .returned (.int .i64 err) ∧
      ∃ s', KA W w' r s' v L X ∧ KI s' (k + 1) ∧ s'.lim = s.lim ∧ s'.os.fi = s.os.fi ∧ s'.os.B = s.os.B ∧ decide (s'.st = 5) = (decide (err = 0) || decide (s.st = 5)) := by
  obtain ⟨fp, og, hA⟩ := h
  have h1 := hA.1
  refine (sreset_any r s fp code w h1 (by omega)).mono ?_
  rintro e w' ⟨rfl, hm⟩
  refine ⟨_, rfl, _, KA.turn hA hm, ?_⟩
  unfold SS.rst SS.rstN
  by_cases h4 : 4 ≤ s.st
  · rw [if_pos h4, if_neg (show ¬ 24 = 0 by omega)]
    exact ⟨hi.more, rfl, rfl, rfl, by simp⟩
  · rw [if_neg h4, if_neg (show ¬ 4611686018427387903 < code by omega), if_pos rfl]
    exact ⟨⟨hi.id, ⟨by show 1 ≤ 5; omega, by show 5 ≤ 5; omega⟩, hi.lim, hi.more.len, hi.gi, fun _ => ⟨code, rfl, hc⟩⟩, rfl, rfl, rfl, by simp⟩
theorem keep_limit (W w : World) (r k n : Nat) (s : SS) (v : Value) (L : List Nat) {X : Ext} (h : KA W w r s v L X) (hi : KI s k) (hn : n < 500) :
    Calls Try.prog 19 #[.pointer (some ⟨r, 0, none⟩), .int .u64 n] w fun e w' => e = .returned (.tuple #[]) ∧
      ∃ s', KA W w' r s' v L X ∧ KI s' (k + 1) ∧ s'.lim = max s.lim n ∧ s'.os.fi = s.os.fi ∧ s'.os.B = s.os.B ∧ s'.st = s.st := by
  obtain ⟨fp, og, hA⟩ := h
  have h1 := hA.1
  refine (slimit_any r s fp n w h1 (by omega)).mono ?_
  rintro e w' ⟨rfl, hm⟩
  have hl := hi.lim
  exact ⟨rfl, _, KA.turn hA hm, ⟨hi.id, hi.st, by show max s.lim n < 500; omega, hi.more.len, hi.gi.more (Nat.le_max_left _ _), hi.rs⟩, rfl, rfl, rfl, rfl⟩
/-- A piece is under way. -/
structure KM (s : SS) (k off len : Nat) (fin : Bool) : Prop where
  id : s.id = 8
  st : 1 ≤ s.st ∧ s.st ≤ 4
  lim : s.lim < 500
  bl : s.os.B.length ≤ 60 * k
  gi : GI s.os s.lim
  snt : off + len ≤ s.os.sent
set_option maxRecDepth 100000 in
theorem keep_next (W w : World) (r k : Nat) (s : SS) (room : Int) (more : Nat) (v : Value) {X : Ext} (h : KA W w r s v s.os.B X) (hi : KI s k) (hk : k < 60) (hm : more < 18446744073709551616) (hr1 : -9223372036854775808 ≤ room) (hr2 : room ≤ 9223372036854775807) :
    Calls Try.prog 20 #[.pointer (some ⟨r, 0, none⟩), .int .i64 room, .int .u64 more] w fun e w' => ∃ f ok, e = .returned (.tuple #[.agg (encF f).toArray, .bool ok]) ∧ FrSl f ∧
      ((ok = false ∧ KA W w' r s v s.os.B X) ∨
       (ok = true ∧ s.st = 5 ∧ ∃ c s', f = resetF 8 (some (c, s.os.sent)) ∧ c < 100 ∧ (size4 f : Int) ≤ room ∧ KA W w' r s' v s.os.B X ∧ KI s' (k + 1) ∧ s'.lim = s.lim ∧ s'.os = s.os ∧ s'.st = 5) ∨
       (ok = true ∧ s.st ≤ 4 ∧ ∃ off od len cd fin s', f = strF 8 off (.slice od len cd) fin ∧ KA W w' r s' v s.os.B X ∧ KM s' k off len fin ∧ s'.lim = s.lim ∧ s'.os.B = s.os.B ∧ s'.os.fi = s.os.fi ∧
          Vw encB w' w'.heap.size (.slice od len cd) ((s.os.B.drop off).take len) ∧ (off + len ≤ s.lim ∨ len = 0) ∧ off + len ≤ s.os.B.length ∧ (fin = true → s.os.fi = true ∧ off + len = s.os.B.length) ∧ (len : Int) + 20 ≤ min room 512)) := by
  obtain ⟨fp, og, hA⟩ := h
  have h1 := hA.1
  have hK : KA W w r s v s.os.B X := ⟨fp, og, hA⟩
  have hl4 := hi.gi.l4
  have hlim := hi.lim
  have hst := hi.st
  by_cases hs5 : s.st = 5
  · obtain ⟨c, hrs, hc⟩ := hi.rs hs5
    by_cases hq : s.rq = true ∧ (size4 (resetF s.id s.rs) : Int) ≤ min room 512
    · refine (snext_rst r s fp room more w h1 (by omega) hq.1 ⟨_, hrs, hq.2⟩ hr1 hr2).mono ?_
      rintro e w' ⟨rfl, hm⟩
      have e1 : resetF s.id s.rs = resetF 8 (some (c, s.os.sent)) := by rw [hi.id, hrs]
      refine ⟨_, _, rfl, resetF_sl _ _, .inr (.inl ⟨rfl, hs5, c, _, e1, hc, ?_, KA.turn hA hm, ⟨hi.id, hi.st, hi.lim, hi.more.len, hi.gi, hi.rs⟩, rfl, rfl, hs5⟩)⟩
      have := hq.2
      omega
    · refine (snext_rno r s fp room more w h1 (by omega) (fun q => ⟨_, hrs, ?_⟩) hr1 hr2).mono ?_
      · rcases Int.lt_or_le (min room 512) (size4 (resetF s.id s.rs) : Int) with q2 | q2
        · exact q2
        · exact absurd ⟨q, q2⟩ hq
      · rintro e w' ⟨rfl, hb⟩
        exact ⟨_, _, rfl, ⟨⟨_, _, _, rfl⟩, ⟨_, _, _, rfl⟩⟩, .inl ⟨rfl, hK.later hb⟩⟩
  · by_cases hroom : min room 512 < 20
    · refine (snext_few r s fp room more w h1 (by omega) hroom).mono ?_
      rintro e w' ⟨rfl, hb⟩
      exact ⟨_, _, rfl, ⟨⟨_, _, _, rfl⟩, ⟨_, _, _, rfl⟩⟩, .inl ⟨rfl, hK.later hb⟩⟩
    · obtain ⟨m, hm2⟩ : ∃ m : Nat, min room 512 = (m : Int) + 20 := ⟨(min room 512 - 20).toNat, by omega⟩
      obtain ⟨lim2, hlim2⟩ : ∃ lim2, min s.lim (s.os.sent + min more 1099511627776) = lim2 := ⟨_, rfl⟩
      rcases hi.gi.next (by omega) m lim2 (by omega) with ⟨f, t0, t, b1, b2, b3, b4, b5, b6, b7, b8, b9, b10⟩ | ⟨b1, b2, b3⟩ | ⟨f, t0, b1, b2, b3, b4, b5⟩
      · obtain ⟨fin, hfin⟩ : ∃ fin, (decide (t = s.os.B.length) && s.os.ende) = fin := ⟨_, rfl⟩
        refine (snext_yes r s fp room more m lim2 f fin (s.os.went f t) ((s.os.B.drop f).take (t - f)) w h1 (by omega) hm2 hm hr1 hr2 hlim2 rfl (fun b fb W2 h0 => ?_)).mono ?_
        · rw [← hfin]
          exact onext_go b s.os fb m lim2 f t0 t W2 h0 (by omega) b1 b2 b3 (by rw [Int.toNat_natCast]; exact b4) b5 (by omega) b7 b8 (by omega) (by omega)
        · rintro e w' ⟨v2, rfl, hm, og2, hsl, hog⟩
          have hdl : ((s.os.B.drop f).take (t - f)).length = t - f := by rw [List.length_take, List.length_drop]; omega
          have hvw := hsl.vw
          obtain ⟨od, cd, rfl, hc1, hc2⟩ := hvw.shape
          rw [hdl] at hvw ⊢
          rw [hi.id]
          refine ⟨_, _, rfl, ⟨⟨_, _, _, rfl⟩, ⟨_, _, _, rfl⟩⟩, .inr (.inr ⟨rfl, by omega, f, od, t - f, cd, fin, _, rfl, KA.turn hA hm, ⟨hi.id, ⟨?_, ?_⟩, hi.lim, hi.len, b9, ?_⟩, rfl, rfl, rfl, hvw, .inl (by omega), by omega, fun q => ?_, by omega⟩)⟩
          · show 1 ≤ max (max s.st 2) (if fin then 3 else 0)
            omega
          · show max (max s.st 2) (if fin then 3 else 0) ≤ 4
            split <;> omega
          · show f + (t - f) ≤ (s.os.went f t).sent
            omega
          · rw [q] at hfin
            simp only [Bool.and_eq_true, decide_eq_true_eq] at hfin
            refine ⟨?_, by omega⟩
            have := hfin.2
            unfold OS.ende at this
            simp only [Bool.and_eq_true] at this
            exact this.1.1
      · refine (snext_yes r s fp room more m lim2 s.os.B.length true { s.os with es := true, el := false } [] w h1 (by omega) hm2 hm hr1 hr2 hlim2 rfl (fun b fb W2 h0 => ?_)).mono ?_
        · refine (onext_end b s.os fb m lim2 W2 h0 (by omega) b1 b2 b3 (by omega) (by omega)).mono ?_
          rintro e w' ⟨rfl, hm⟩
          exact ⟨_, none, rfl, hm, SlG.nil _, fun g q => by cases q⟩
        · rintro e w' ⟨v2, rfl, hm, og2, hsl, hog⟩
          have hvw := hsl.vw
          obtain ⟨od, cd, rfl, hc1, hc2⟩ := hvw.shape
          rw [hi.id]
          refine ⟨_, _, rfl, ⟨⟨_, _, _, rfl⟩, ⟨_, _, _, rfl⟩⟩, .inr (.inr ⟨rfl, by omega, s.os.B.length, od, 0, cd, true, _, rfl, KA.turn hA hm, ⟨hi.id, ⟨?_, ?_⟩, hi.lim, hi.len, hi.gi.endGoes, ?_⟩, rfl, rfl, rfl, ?_, .inr rfl, by omega, fun q => ?_, by omega⟩)⟩
          · show 1 ≤ max (max s.st 2) (if true then 3 else 0)
            omega
          · show max (max s.st 2) (if true then 3 else 0) ≤ 4
            rw [if_pos rfl]
            omega
          · show s.os.B.length + 0 ≤ s.os.sent
            omega
          · rw [List.take_zero]
            exact hvw
          · refine ⟨?_, by omega⟩
            unfold OS.ende at b3
            simp only [Bool.and_eq_true] at b3
            exact b3.1.1
      · refine (snext_no r s fp room more m lim2 w h1 (by omega) hm2 hm hr1 hr2 hlim2 (fun b fb W2 h0 => ?_)).mono ?_
        · exact onext_none b s.os fb m lim2 f t0 W2 h0 (by omega) b1 b2 (by rw [Int.toNat_natCast]; exact b3) b4 b5 (by omega) (by omega)
        · rintro e w' ⟨rfl, hb⟩
          exact ⟨_, _, rfl, ⟨⟨_, _, _, rfl⟩, ⟨_, _, _, rfl⟩⟩, .inl ⟨rfl, hK.later hb⟩⟩
theorem strF_ok8 {off : Nat} {v : Value} {fin : Bool} (h : off ≤ 4000) : FrOk (strF 8 off v fin) :=
  ⟨⟨by show (-9223372036854775808 : Int) ≤ 8; omega, by show (8 : Int) ≤ 9223372036854775807; omega⟩, by show 8 < _; omega, by show off < _; omega, by show 0 < _; omega, by show 0 < _; omega, by show 0 < _; omega⟩
theorem KM.bds {s : SS} {k off len : Nat} {fin : Bool} (h : KM s k off len fin) : off ≤ 4000 ∧ len ≤ 4000 := by
  have := h.snt
  have := h.gi.ok.sent
  have := h.gi.l4
  omega
set_option maxRecDepth 100000 in
theorem keep_lost (W w : World) (r k off len cd : Nat) (od : Option Addr) (fin : Bool) (s : SS) (v : Value) (L : List Nat) {X : Ext} (h : KA W w r s v L X) (hi : KM s k off len fin) :
    Calls Try.prog 23 #[.pointer (some ⟨r, 0, none⟩), .agg (encF (strF 8 off (.slice od len cd) fin)).toArray] w fun e w' => e = .returned (.tuple #[]) ∧
      ∃ s', KA W w' r s' v L X ∧ KI s' (k + 1) ∧ s'.lim = s.lim ∧ s'.os.fi = s.os.fi ∧ s'.os.B = s.os.B ∧ s'.st ≤ 4 := by
  obtain ⟨fp, og, hA⟩ := h
  have h1 := hA.1
  obtain ⟨hb1, hb2⟩ := hi.bds
  obtain ⟨b1, b2, b3⟩ := hi.gi.lost (f := off) (t := off + len) (by omega) hi.snt fin
  rw [show off + len - off = len by omega] at b1 b2 b3
  refine (slost_str r s fp (strF 8 off (.slice od len cd) fin) off len cd fin od _ _ w h1 (strF_ok8 hb1) rfl hi.id.symm rfl rfl rfl (by omega) rfl b1 b2 rfl).mono ?_
  rintro e w' ⟨rfl, hm⟩
  exact ⟨rfl, _, KA.turn hA hm, ⟨hi.id, ⟨hi.st.1, by have := hi.st.2; show s.st ≤ 5; omega⟩, hi.lim, by have := hi.bl; show s.os.B.length ≤ 60 * (k + 1); omega, b3, fun q => by
    have q : s.st = 5 := q
    have := hi.st
    omega⟩, rfl, rfl, rfl, hi.st.2⟩
set_option maxRecDepth 100000 in
theorem keep_ack (W w : World) (r k off len cd : Nat) (od : Option Addr) (fin : Bool) (s : SS) (v : Value) (L : List Nat) {X : Ext} (h : KA W w r s v L X) (hi : KM s k off len fin) :
    Calls Try.prog 24 #[.pointer (some ⟨r, 0, none⟩), .agg (encF (strF 8 off (.slice od len cd) fin)).toArray] w fun e w' => e = .returned (.tuple #[]) ∧
      ∃ s', KA W w' r s' v L X ∧ KI s' (k + 1) ∧ s'.lim = s.lim ∧ s'.os.fi = s.os.fi ∧ s'.os.B = s.os.B ∧ s'.st ≤ 4 := by
  obtain ⟨fp, og, hA⟩ := h
  have h1 := hA.1
  obtain ⟨hb1, hb2⟩ := hi.bds
  obtain ⟨zs, yz, at_, b1, b2, b3, b4, b5, b6, b7, b8, b9⟩ := hi.gi.acked (f := off) (t := off + len) (by omega) hi.snt fin
  rw [show off + len - off = len by omega] at b1 b4
  refine (sack_str r s fp (strF 8 off (.slice od len cd) fin) off len cd fin od zs yz at_ w h1 (strF_ok8 hb1) rfl hi.id.symm rfl rfl rfl (by omega) b4 b5 b1 b2 b3 b6 b7 b8).mono ?_
  rintro e w' ⟨rfl, hm⟩
  have hst : 1 ≤ (s.ackd (s.os.ackG zs yz at_ fin)).st ∧ (s.ackd (s.os.ackG zs yz at_ fin)).st ≤ 4 := by
    have := hi.st
    unfold SS.ackd
    refine ⟨?_, ?_⟩
    · show 1 ≤ if _ then 4 else s.st
      split <;> omega
    · show (if _ then 4 else s.st) ≤ 4
      split <;> omega
  exact ⟨rfl, _, KA.turn hA hm, ⟨hi.id, ⟨hst.1, by omega⟩, hi.lim, by have := hi.bl; show s.os.B.length ≤ 60 * (k + 1); omega, b9, fun q => by omega⟩, rfl, rfl, rfl, hst.2⟩
end Go.Proofs.Ytncfbaabhceeoaa

/- DERIVED. The document's numbers as bytes: narthexref1's Size and Put, how long they are. -/
namespace Go.Proofs.Ytncfbaabhceeoaa
open Go.RowKit

/-- A new row of k bytes. -/
def MadeK (w w' : World) (v : Value) (k : Nat) : Prop := ∃ og L, SlG encB 5 w' v og L ∧ L.length = k ∧ (∀ g, og = some g → w.heap.size ≤ g) ∧ Below w.heap.size w w'
set_option maxRecDepth 100000 in
theorem rsize_q (n : Nat) (w : World) (hn : n < 18446744073709551616) : Calls Try.prog 77 #[.int .u64 n] w fun e w' => e = .returned (.int .i64 (vsize n)) ∧ w' = w := by
  obtain ⟨z, hz⟩ : ∃ z : Int, (n : Int) = z := ⟨_, rfl⟩
  obtain ⟨k, hk⟩ : ∃ k, vsize n = k := ⟨_, rfl⟩
  have hk2 : (z < 64 ∧ k = 1) ∨ (¬ z < 64 ∧ z < 16384 ∧ k = 2) ∨ (¬ z < 64 ∧ ¬ z < 16384 ∧ z < 1073741824 ∧ k = 4) ∨ (¬ z < 64 ∧ ¬ z < 16384 ∧ ¬ z < 1073741824 ∧ z ≤ 4611686018427387903 ∧ k = 8) ∨ (¬ z < 64 ∧ ¬ z < 16384 ∧ ¬ z < 1073741824 ∧ ¬ z ≤ 4611686018427387903 ∧ k = 0) := by
    unfold vsize at hk
    subst hz hk
    repeat' split
    all_goals omega
  rw [hz, hk]
  clear hz hk hn
  rcases hk2 with ⟨h1, rfl⟩ | ⟨h1, h2, rfl⟩ | ⟨h1, h2, h3, rfl⟩ | ⟨h1, h2, h3, h4, rfl⟩ | ⟨h1, h2, h3, h4, rfl⟩
  all_goals
    go_enter Try.func77, Try.ntmps77
    go_wp2_with fail
    go_ret
    exact ⟨rfl, rfl⟩
theorem wraps_u8 (n : Int) (h₀ : 0 ≤ n) (h₁ : n < 2 ^ 8) : IntKind.u8.wrap n = n := IntWalk.u8_in _ (by omega)
theorem vsize_pos {n : Nat} (h : n ≤ 4611686018427387903) : vsize n = 1 ∨ vsize n = 2 ∨ vsize n = 4 ∨ vsize n = 8 := by
  unfold vsize
  repeat' split
  all_goals omega
set_option maxRecDepth 100000 in
set_option maxHeartbeats 2000000 in
theorem rput_any (v : Value) (B n : Nat) (xs : List Nat) (w : World) (h : Vw encB w B v xs) (hB : B ≤ w.heap.size) (hl : xs.length ≤ 10000) (hn : n ≤ 4611686018427387903) :
    Calls Try.prog 62 #[v, .int .u64 n] w fun e w' => ∃ v', e = .returned v' ∧ MadeK w w' v' (xs.length + vsize n) := by
  obtain ⟨i0, hi0, hz0, hz1, hz2'⟩ := info_parts infoB
  obtain ⟨k, hk⟩ : ∃ k, vsize n = k := ⟨_, rfl⟩
  have hk2 := vsize_pos hn
  rw [hk] at hk2
  have HK := Lib.hid hk
  have H := Lib.hid h
  have HL := Lib.hid hl
  obtain ⟨oa, cap, rfl, hc1, hc2⟩ := h.shape
  obtain ⟨ln, hln⟩ : ∃ ln, xs.length = ln := ⟨_, rfl⟩
  have HLN := Lib.hid hln
  rw [hln] at H hc1 hl ⊢
  rw [hk]
  clear h hk hln
  go_enter Try.func62, Try.ntmps62
  go_wp2_with fail
  refine (rsize_q n _ (by omega)).mono ?_
  rintro e w1 ⟨rfl, rfl⟩
  rw [HK.out]
  go_wp2_with (refine wpList_pushV encB_len encB_one Try.underlying36 hi0 hz1 hz0 zeroB rfl (.tmp 11) (.tmp 12) rfl (by exact SlG.fresh0) (by exact H.out.below (((Below.refl _ _).alloc (Nat.le_refl _) _).mono hB)) rfl rfl (by rw [HLN.out, hz2']; simp; omega) (by rw [HLN.out]; simp; omega) ?_)
  intro W1 v1 og1 hs1 ho1 hu1
  have HM := Lib.hid (show ∃ og L, SlG encB 5 W1 v1 og L ∧ L.length = ln + 0 ∧ (∀ g, og = some g → w1.heap.size ≤ g) ∧ Below w1.heap.size w1 W1 from ⟨og1, xs, hs1, HLN.out, og_new (B := w1.heap.size) (fun g e => by cases e; exact Nat.le_refl _) (by simp) ho1, Upd.belowOf ((Below.refl _ _).alloc (Nat.le_refl _) _) hu1 (fun j hj e => by cases e; omega)⟩)
  clear hs1 ho1 hu1
  go_wp2_with fail
  go_loopw [6, 7, 8] (fun v i _ wr => ∃ m : Nat, i = .int .i64 m ∧ m ≤ k ∧ MadeK w1 wr v (ln + m)) (fun _ i _ _ => k - (intOf i).toNat)
  case atStart => exact ⟨0, rfl, by omega, HM.out⟩
  case round =>
    obtain ⟨m, rfl, hm, og, L, hs, hL, hg, hb⟩ := hrel
    have HS := Lib.hid hs
    have HG := Lib.hid hg
    have HB := Lib.hid hb
    have HLL := Lib.hid hL
    clear hs hg hb hL HM
    by_cases hlt : m < k
    · obtain ⟨x, hx, hx2⟩ : ∃ x : Nat, (n : Int) / 2 ^ (8 * (k - 1 - m)) % 256 = (x : Int) ∧ x < 256 := ⟨n / 2 ^ (8 * (k - 1 - m)) % 256, by simp, Nat.mod_lt _ (by omega)⟩
      go_upto_if 29 with fail
      go_cut [8] (fun v wx => ∃ y : Nat, v = .int .u8 y ∧ Below wr.heap.size wr wx)
      case first =>
        by_cases hm0 : m = 0
        · subst hm0
          rcases hk2 with rfl | rfl | rfl | rfl
          all_goals
            go_wp2_with fail
            go_meet
            case rel => exact ⟨_, congrArg (Value.int .u8) (bits_nat .u8 8 (by decide) wraps_u8 _ _ (Nat.mod_lt _ (by decide)) (by decide)).2, (Below.refl _ _).alloc (Nat.le_refl _) _⟩
        · have hmi : ((m : Int) == 0) = false := by simp; omega
          go_wp2_with fail
          go_meet
          case rel => exact ⟨x, congrArg (Value.int .u8) hx, Below.refl _ _⟩
      case rest =>
        obtain ⟨y, rfl, hb2⟩ := hcut
        have HS2 := Lib.hid (HS.out.below hb2)
        have HB2 := Lib.hid (below_call HB.out HB.out.size hb2)
        clear hb2 HS HB
        generalize wc = w2 at *
        go_wp2_with (refine wpList_pushN encB_len encB_one Try.underlying36 hi0 hz1 hz0 zeroB rfl (.tmp 36) (.tmp 38) rfl (by exact HS2.out.alloc _) [y] (by exact Src.block (alloc_at _ _) rfl) rfl rfl rfl (by simp) (by rw [HLL.out, hz2']; simp; omega) (by rw [HLL.out]; simp; omega) ?_)
        intro W3 v3 og3 hs3 ho3 hu3
        have hbs := HB2.out.size
        have HN := Lib.hid (show MadeK w1 W3 v3 (ln + (m + 1)) from ⟨og3, _, hs3, by rw [List.length_append, HLL.out]; rfl, og_new HG.out (by omega) ho3, Upd.belowOf (HB2.out.alloc hbs _) hu3 (fun g hg q => by have := HG.out g q; omega)⟩)
        clear hs3 ho3 hu3
        go_wp2_with fail
        go_roundw
        case rel => exact ⟨m + 1, by go_num, by omega, HN.out⟩
        case measure => simp [intOf]; omega
    · obtain rfl : m = k := by omega
      go_wp2_with fail
      go_ret
      exact ⟨_, rfl, og, L, HS.out, HLL.out, HG.out, HB.out⟩
end Go.Proofs.Ytncfbaabhceeoaa
