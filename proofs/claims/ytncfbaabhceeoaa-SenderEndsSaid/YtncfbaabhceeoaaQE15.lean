/- DERIVED. Walk of outbuf's Next, where no piece goes: nothing, or the end alone. -/
import Derived.Lib.SlBytesConst
import Derived.Laws.BytesArg
import Derived.Deep.DeepCutAuto
import Derived.Test.YtncfbaabhceeoaaQE5
import Derived.Test.YtncfbaabhceeoaaQE6
import Derived.Test.YtncfbaabhceeoaaQE8
import Derived.Test.YtncfbaabhceeoaaQE9
import Derived.Test.YtncfbaabhceeoaaQE10
import Derived.Test.YtncfbaabhceeoaaQE11
import Derived.Test.YtncfbaabhceeoaaQE14
set_option linter.all false
namespace Go.Proofs.Ytncfbaabhceeoaa
open Go.RowKit

theorem slen_n (b : Nat) (og : Option Nat) (xs : List Rg) (w : World) (h : SetAt w b many og xs) (n : Nat) (hn : xs.length = n) : Calls Try.prog 58 #[.pointer (some ⟨b, 0, none⟩)] w fun e w' => e = .returned (.int .i64 n) ∧ ∃ n, w' = w.drewN n := by
  rw [← hn]
  exact slen_q b many og xs w h
set_option maxRecDepth 100000 in
set_option maxHeartbeats 2000000 in
theorem onext_none (b : Nat) (s : OS) (fp : Nat → Prop) (most : Int) (limit f t0 : Nat) (w : World) (h : OAt w b s fp) (hlim : limit < 18446744073709551616) (hpt : s.part limit = (f, t0)) (hft : f ≤ t0) (ht : min t0 (f + most.toNat) = f) (ht0 : t0 ≤ 1099511627776) (hno : s.ys = [] → s.sent = s.B.length → s.ende = false) (hm1 : -9223372036854775808 ≤ most) (hm : most ≤ 9223372036854775807) :
    Calls Try.prog 39 #[.pointer (some ⟨b, 0, none⟩), .int .i64 most, .int .u64 limit] w
      fun e w' => e = .returned (.tuple #[.int .u64 0, .slice none 0 0, .bool false, .bool false]) ∧ Below w.heap.size w w' := by
  have H := Lib.hid h
  have HPT := Lib.hid hpt
  have HNO := Lib.hid hno
  obtain ⟨mo, hmo⟩ : ∃ mo, most.toNat = mo := ⟨_, rfl⟩
  rw [hmo] at ht
  have hmb : mo ≤ 9223372036854775807 := by omega
  have hmm : max 0 most = (mo : Int) := by omega
  clear h hpt hno
  go_enter Try.func39, Try.ntmps39
  go_wp2_with fail
  refine (opart_any b s fp limit _ (by exact H.out) hlim HPT.out).mono ?_
  rintro e w1 ⟨rfl, hb⟩
  have HB := Lib.hid hb
  clear hb
  go_upto_region 2 with fail
  go_cut [11] (fun v wx => v = .int .u64 f ∧ wx = w1)
  case first =>
    have hwm : IntKind.u64.wrap (mo : Int) = mo := IntWalk.u64_in _ (by omega)
    obtain ⟨z, hz, hzt⟩ : ∃ z : Nat, (f : Int) + (mo : Int) = (z : Int) ∧ f + mo = z := ⟨f + mo, by omega, rfl⟩
    have hzb : (z : Int) < 18446744073709551616 := by omega
    have hwz : IntKind.u64.wrap (z : Int) = z := IntWalk.u64_in _ (by omega)
    rw [hzt] at ht
    rcases (by omega : (z < t0 ∧ f = z) ∨ (t0 < z ∧ f = t0) ∨ (t0 = z ∧ f = t0)) with ⟨q1, q3⟩ | ⟨q1, q3⟩ | ⟨q1, q3⟩
    all_goals rcases (by omega : (most < 0 ∧ mo = 0) ∨ (most = 0 ∧ mo = 0) ∨ (0 < most ∧ most = (mo : Int))) with ⟨p1, p2⟩ | ⟨p1, p2⟩ | ⟨p1, p2⟩
    all_goals clear ht
    all_goals first | omega | skip
    all_goals try subst p1
    all_goals try subst p2
    all_goals try subst q3
    all_goals try subst q1
    all_goals try clear hmo hmm hmb hm hm1
    all_goals go_wp2_with fail
    all_goals go_meet
    all_goals (case rel => exact ⟨by first | rfl | (congr 1; congr 1; omega), rfl⟩)
  case rest =>
    obtain ⟨rfl, rfl⟩ := hcut
    generalize wc = w1 at *
    have H1 := Lib.hid (H.out.below HB.out)
    obtain ⟨vb, ob, c, oc, d, od, hO, hfp⟩ := H1.out
    obtain ⟨e1, e2, e3, e6, e7, e8, e9⟩ := H1.out.cells
    have c5 : w1.cell? ⟨b, 5, none⟩ = some (.pointer (some ⟨d, 0, none⟩)) := (cell_at hO.blk 5).trans rfl
    have HO := Lib.hid hO
    have HSL := Lib.hid (show ∀ W, Below w1.heap.size w1 W → W.cell? ⟨b, 5, none⟩ = some (.pointer (some ⟨d, 0, none⟩)) ∧ W.cell? ⟨b, 2, none⟩ = some (.int .u64 s.B.length) ∧ W.cell? ⟨b, 3, none⟩ = some (.int .u64 s.sent) from fun W h => by
      have hk := below_keeps h hO.blk (heap_lt hO.blk)
      exact ⟨(cell_at hk 5).trans rfl, (cell_at hk 2).trans rfl, (cell_at hk 3).trans rfl⟩)
    have hlen := hO.ok.len
    have hsl := hO.ok.sent
    have hyl := hO.ok.ly
    have HNO' := Lib.hid (show s.ys.length = 0 → ¬ s.sent < s.B.length → s.ende = false from fun h1 h2 => HNO.out (by simpa using h1) (by omega))
    obtain ⟨n, hn⟩ : ∃ n, s.ys.length = n := ⟨_, rfl⟩
    have HN := Lib.hid hn
    rw [hn] at hyl HNO'
    generalize hse : s.sent = sent at *
    generalize hle : s.B.length = len at *
    generalize hee : s.ende = en at *
    have HE := Lib.hid hee
    clear hO hfp HNO hse hle hn hee hmm hmo
    have hffi : ((f : Int) == (f : Int)) = true := by simp
    rcases (by omega : (0 < n) ∨ (n = 0 ∧ sent < len) ∨ (n = 0 ∧ ¬ sent < len)) with q1 | ⟨q1, q2⟩ | ⟨q1, q2⟩
    · have q1i : (0 : Int) < (n : Int) := by omega
      go_wp2_with fail
      go_quiet ((go_at_call 58; exact Calls.quiet_of (slen_n d od _ _ (by exact HO.out.sy.below (below_drewN (Below.refl _ _) _)) n HN.out)))
      go_wp2_with fail
      (try simp only [Exit.inBlock, Exit.then])
      refine bodyPost_ret (results_tmp4 rfl _ _ _) rfl ?_
      exact ⟨rfl, below_drewN HB.out _⟩
    · subst q1
      have q2i : (sent : Int) < (len : Int) := by omega
      go_wp2_with fail
      go_quiet ((go_at_call 58; exact Calls.quiet_of (slen_n d od _ _ (by exact HO.out.sy.below (below_drewN (Below.refl _ _) _)) 0 HN.out)))
      go_wp2_with fail
      (try simp only [Exit.inBlock, Exit.then])
      refine bodyPost_ret (results_tmp4 rfl _ _ _) rfl ?_
      exact ⟨rfl, below_drewN HB.out _⟩
    · subst q1
      have q2i : ¬ (sent : Int) < (len : Int) := by omega
      have hen : en = false := HNO'.out rfl q2
      subst hen
      go_wp2_with fail
      go_quiet (first | (go_at_call 58; exact Calls.quiet_of (slen_n d od _ _ (by exact HO.out.sy.below (below_drewN (Below.refl _ _) _)) 0 HN.out)) | (go_at_call 59; exact Calls.quiet_of (oend_e b s _ _ (by exact H1.out.drewN _) HE.out)))
      go_wp2_with fail
      (try simp only [Exit.inBlock, Exit.then])
      refine bodyPost_ret (results_tmp4 rfl _ _ _) rfl ?_
      exact ⟨rfl, below_drewN HB.out _⟩
set_option maxRecDepth 100000 in
set_option maxHeartbeats 2000000 in
theorem onext_end (b : Nat) (s : OS) (fp : Nat → Prop) (most : Int) (limit : Nat) (w : World) (h : OAt w b s fp) (hlim : limit < 18446744073709551616) (hy : s.ys = []) (hsl0 : s.sent = s.B.length) (hen : s.ende = true) (hm1 : -9223372036854775808 ≤ most) (hm : most ≤ 9223372036854775807) :
    Calls Try.prog 39 #[.pointer (some ⟨b, 0, none⟩), .int .i64 most, .int .u64 limit] w
      fun e w' => e = .returned (.tuple #[.int .u64 s.B.length, .slice none 0 0, .bool true, .bool true]) ∧ OM w w' fp b { s with es := true, el := false } := by
  have H := Lib.hid h
  obtain ⟨f, hf⟩ : ∃ f, s.sent = f := ⟨_, rfl⟩
  obtain ⟨t0, hpt, ht1⟩ : ∃ t0, s.part limit = (f, t0) ∧ t0 = f := ⟨f, by unfold OS.part; rw [hy]; show (s.sent, _) = _; rw [hf, show max f (min limit s.B.length) = f by omega], rfl⟩
  have ht0 : t0 ≤ 1099511627776 := by have := h.ok.len; omega
  have ht : min t0 (f + most.toNat) = f := by omega
  have HPT := Lib.hid hpt
  have HY := Lib.hid hy
  have HSL0 := Lib.hid (show s.B.length = f by omega)
  have HSF := Lib.hid hf
  have HEN := Lib.hid hen
  obtain ⟨mo, hmo⟩ : ∃ mo, most.toNat = mo := ⟨_, rfl⟩
  rw [hmo] at ht
  have hmb : mo ≤ 9223372036854775807 := by omega
  have hmm : max 0 most = (mo : Int) := by omega
  rw [← hsl0, hf]
  clear h hpt hy hen hf hsl0
  go_enter Try.func39, Try.ntmps39
  go_wp2_with fail
  refine (opart_any b s fp limit _ (by exact H.out) hlim HPT.out).mono ?_
  rintro e w1 ⟨rfl, hb⟩
  have HB := Lib.hid hb
  clear hb
  go_upto_region 2 with fail
  go_cut [11] (fun v wx => v = .int .u64 f ∧ wx = w1)
  case first =>
    have hwm : IntKind.u64.wrap (mo : Int) = mo := IntWalk.u64_in _ (by omega)
    obtain ⟨z, hz, hzt⟩ : ∃ z : Nat, (f : Int) + (mo : Int) = (z : Int) ∧ f + mo = z := ⟨f + mo, by omega, rfl⟩
    have hzb : (z : Int) < 18446744073709551616 := by omega
    have hwz : IntKind.u64.wrap (z : Int) = z := IntWalk.u64_in _ (by omega)
    rw [hzt] at ht
    rcases (by omega : (z < t0 ∧ f = z) ∨ (t0 < z ∧ f = t0) ∨ (t0 = z ∧ f = t0)) with ⟨q1, q3⟩ | ⟨q1, q3⟩ | ⟨q1, q3⟩
    all_goals rcases (by omega : (most < 0 ∧ mo = 0) ∨ (most = 0 ∧ mo = 0) ∨ (0 < most ∧ most = (mo : Int))) with ⟨p1, p2⟩ | ⟨p1, p2⟩ | ⟨p1, p2⟩
    all_goals clear ht
    all_goals first | omega | skip
    all_goals try subst p1
    all_goals try subst p2
    all_goals try subst q3
    all_goals try subst q1
    all_goals try clear hmo hmm hmb hm hm1
    all_goals go_wp2_with fail
    all_goals go_meet
    all_goals (case rel => exact ⟨by first | rfl | (congr 1; congr 1; omega), rfl⟩)
  case rest =>
    obtain ⟨rfl, rfl⟩ := hcut
    generalize wc = w1 at *
    have H1 := Lib.hid (H.out.below HB.out)
    obtain ⟨vb, ob, c, oc, d, od, hO, hfp⟩ := H1.out
    obtain ⟨e1, e2, e3, e6, e7, e8, e9⟩ := H1.out.cells
    have c5 : w1.cell? ⟨b, 5, none⟩ = some (.pointer (some ⟨d, 0, none⟩)) := (cell_at hO.blk 5).trans rfl
    have HO := Lib.hid hO
    rw [HSL0.out] at e2
    rw [HSF.out] at e3
    have HWf := Lib.hid (show Went fp (OFp b c d ob oc od) w w1 from by
      rw [← hfp]
      exact Went.first HB.out (Went.refl fp w1))
    clear hO hfp hmm hmo
    have hffi : ((f : Int) == (f : Int)) = true := by simp
    have hff : ¬ (f : Int) < (f : Int) := by omega
    go_wp2_with fail
    go_quiet (first | (go_at_call 58; exact Calls.quiet_of (slen_n d od _ _ (by exact HO.out.sy.below (below_drewN (Below.refl _ _) _)) 0 (by rw [HY.out]; rfl))) | (go_at_call 59; exact Calls.quiet_of (oend_e b s _ _ (by exact H1.out.drewN _) HEN.out)))
    generalize hW5 : World.drewN w1 _ = w5
    have HM5 := Lib.hid (show OM w w5 fp b s from by rw [← hW5]; exact OM.drewN ⟨_, ⟨vb, ob, c, oc, d, od, HO.out, rfl⟩, HWf.out⟩ _)
    clear HO HWf e1 e2 e3 e6 e7 e8 e9 c5 H1 HB H HPT
    clear hW5
    obtain ⟨fp5, hoa5, hw5⟩ := HM5.out
    obtain ⟨vb5, ob5, c5', oc5, d5, od5, hO5, hfp5⟩ := hoa5
    rw [hfp5] at hw5
    have e2 : w5.cell? ⟨b, 2, none⟩ = some (.int .u64 f) := by rw [cell_at hO5.blk, ← HSL0.out]; rfl
    have f7 := free_at hO5.blk 7
    have f9 := free_at hO5.blk 9
    have e7 := cell_at hO5.blk 7
    have e9 := cell_at hO5.blk 9
    have e79 := cell_at (set_at hO5.blk 7 (.bool true)) 9
    have e72 : (w5.setCell ⟨b, 7, none⟩ (.bool true)).cell? ⟨b, 2, none⟩ = some (.int .u64 f) := by rw [cell_at (set_at hO5.blk 7 (.bool true)), ← HSL0.out]; rfl
    simp only [List.getElem?_toArray, List.getElem?_cons_succ, List.getElem?_cons_zero, Array.setIfInBounds] at e7 e9 e79
    have f79 := free_at (set_at hO5.blk 7 (.bool true)) 9
    have HMY := Lib.hid (show OM w ((w5.setCell ⟨b, 7, none⟩ (.bool true)).setCell ⟨b, 9, none⟩ (.bool false)) fp b { s with es := true, el := false } from om_set hO5 hw5 (Upd.refl _ _) (((Upd.refl (fun j => j = b) w5).setCell ⟨b, 7, none⟩ (.inl rfl) _).setCell ⟨b, 9, none⟩ (.inl rfl) _) (set_at (set_at hO5.blk 7 _) 9 _) hO5.row (.inl rfl) rfl rfl
            ⟨hO5.ok.len, hO5.ok.base, hO5.ok.sent, hO5.ok.nx, hO5.ok.ny, hO5.ok.lx, hO5.ok.ly, hO5.ok.bys⟩)
    have e2x : ((w5.setCell ⟨b, 7, none⟩ (.bool true)).setCell ⟨b, 9, none⟩ (.bool false)).cell? ⟨b, 2, none⟩ = some (.int .u64 f) := by rw [cell_at (set_at (set_at hO5.blk 7 (.bool true)) 9 (.bool false)), ← HSL0.out]; rfl
    clear hO5 hw5 hfp5 HM5
    go_wp2_with fail
    (try simp only [Exit.inBlock, Exit.then])
    refine bodyPost_ret (results_tmp4 rfl _ _ _) rfl ?_
    have hm9 := HMY.out
    rw [HSF.out] at hm9
    exact ⟨rfl, hm9⟩
end Go.Proofs.Ytncfbaabhceeoaa

/- DERIVED. SenderEnds' rounds: what Next tells, and what its frame does, lost or acknowledged. -/
namespace Go.Proofs.Ytncfbaabhceeoaa
open Go.RowKit

/-- Between two rounds: k of them are over. -/
def EndR (W w : World) (r n k : Nat) (reset : Bool) : Prop := ∃ s, SdMine W w r s ∧ s.id = 3 ∧ s.os.sent ≤ 200 ∧
  ((1 ≤ s.st ∧ s.st ≤ 4 ∧ s.lim = 1000 ∧ EI s.os n ∧ (s.os.es = true → 3 ≤ s.st) ∧ (s.os.ea = true → 3 ≤ s.st) ∧ (s.os.whole = true → s.st = 4) ∧ k + vv s.os n ≤ 200 + max n 1 ∧ (reset = true → k ≤ 3 ∨ s.st = 4)) ∨
   (reset = true ∧ s.st = 5 ∧ s.rs = some (9, s.os.sent) ∧ s.rq = true ∧ k ≤ 200) ∨
   (reset = true ∧ s.st = 6 ∧ s.rq = false ∧ k ≤ 201))

/-- Behind the Reset. -/
def EndR2 (W w : World) (r n k : Nat) (reset : Bool) : Prop := ∃ s, SdMine W w r s ∧ s.id = 3 ∧ s.os.sent ≤ 200 ∧
  ((1 ≤ s.st ∧ s.st ≤ 4 ∧ s.lim = 1000 ∧ EI s.os n ∧ (s.os.es = true → 3 ≤ s.st) ∧ (s.os.ea = true → 3 ≤ s.st) ∧ (s.os.whole = true → s.st = 4) ∧ k + vv s.os n ≤ 200 + max n 1 ∧ (reset = true → k ≤ 2 ∨ s.st = 4)) ∨
   (reset = true ∧ s.st = 5 ∧ s.rs = some (9, s.os.sent) ∧ s.rq = true ∧ k ≤ 200) ∨
   (reset = true ∧ s.st = 6 ∧ s.rq = false ∧ k ≤ 201))
theorem EndR.two {W w : World} {r n k : Nat} {reset : Bool} (h : EndR W w r n k reset) (hk : ¬ (reset = true ∧ k = 3)) : EndR2 W w r n k reset := by
  obtain ⟨s, h1, h2, h3, h4⟩ := h
  refine ⟨s, h1, h2, h3, ?_⟩
  rcases h4 with ⟨a1, a2, a3, a4, a5, a6, a7, a8, a9⟩ | h | h
  · refine .inl ⟨a1, a2, a3, a4, a5, a6, a7, a8, fun q => ?_⟩
    rcases a9 q with e | e
    · exact .inl (by
        by_cases e3 : k = 3
        · exact absurd ⟨q, e3⟩ hk
        · omega)
    · exact .inr e
  · exact .inr (.inl h)
  · exact .inr (.inr h)
/-- A frame is under way. -/
def MidR (W w : World) (r n k : Nat) (reset : Bool) (f : Fr) : Prop := ∃ s, SdMine W w r s ∧ s.id = 3 ∧ s.os.sent ≤ 200 ∧
  ((∃ od off len cd fin, f = strF 3 off (.slice od len cd) fin ∧ len ≤ 200 ∧ off ≤ 200 ∧ EM s.os n off (off + len) fin ∧ 1 ≤ s.st ∧ s.st ≤ 4 ∧ s.lim = 1000 ∧ (s.os.es = true → 3 ≤ s.st) ∧ (s.os.ea = true → 3 ≤ s.st) ∧ (s.os.whole = true → s.st = 4) ∧ k + vv s.os n ≤ 200 + max n 1 ∧ (reset = true → k ≤ 2 ∨ s.st = 4)) ∨
   (reset = true ∧ s.st = 5 ∧ s.rs = some (9, s.os.sent) ∧ f = resetF 3 s.rs ∧ k ≤ 200))
/-- Nothing is left to send. -/
def DoneS (W w : World) (r st : Nat) : Prop := ∃ s n, SdMine W w r s ∧ s.os.sent ≤ 200 ∧ n ≤ 200 ∧ s.st = st ∧
  ((st = 4 ∧ s.lim = 1000 ∧ EI s.os n ∧ s.os.whole = true) ∨ (st = 6 ∧ s.rq = false))
def DoneR (W w : World) (r : Nat) (reset : Bool) : Prop := ∃ st, (st = 4 ∨ (reset = true ∧ st = 6)) ∧ DoneS W w r st
theorem MidR.later {W w w' : World} {r n k : Nat} {reset : Bool} {f : Fr} (h : MidR W w r n k reset f) (hb : Below w.heap.size w w') : MidR W w' r n k reset f := by
  obtain ⟨s, h1, h2⟩ := h
  exact ⟨s, h1.later hb, h2⟩
theorem DoneS.later {W w w' : World} {r st : Nat} (h : DoneS W w r st) (hb : Below w.heap.size w w') : DoneS W w' r st := by
  obtain ⟨s, n, h1, h2⟩ := h
  exact ⟨s, n, h1.later hb, h2⟩
theorem DoneS.drewN {W w : World} {r st : Nat} (h : DoneS W w r st) (q : Nat) : DoneS W (w.drewN q) r st := h.later (below_drewN (Below.refl _ _) q)
theorem DoneR.later {W w w' : World} {r : Nat} {reset : Bool} (h : DoneR W w r reset) (hb : Below w.heap.size w w') : DoneR W w' r reset := by
  obtain ⟨st, h1, h2⟩ := h
  exact ⟨st, h1, h2.later hb⟩
theorem EI.sent200 {s : OS} {n : Nat} (h : EI s n) : s.sent ≤ n ∧ s.B.length = n ∧ n ≤ 200 := by
  obtain ⟨wt, hc⟩ := h.ci
  have := hc.len
  have := hc.ok.sent
  have := hc.n200
  omega
theorem EM.sent200 {s : OS} {n f t : Nat} {fin : Bool} (h : EM s n f t fin) : s.sent ≤ n ∧ s.B.length = n ∧ n ≤ 200 ∧ (fin = true → s.es = true) := by
  obtain ⟨wt, hc⟩ := h.cm
  have := hc.len
  have := hc.ok.sent
  have := hc.n200
  have := hc.fn
  exact ⟨by omega, by omega, by omega, fun q => (this q).1⟩
theorem part_over {s : OS} {n : Nat} (hy : s.ys = []) (hsn : s.sent = n) (hB : s.B.length = n) (lim : Nat) : s.part lim = (n, n) := by
  unfold OS.part
  rw [hy]
  show (s.sent, max s.sent (min lim s.B.length)) = _
  rw [hsn, hB]
  congr 1
  omega
set_option maxRecDepth 100000 in
theorem done_next (W w : World) (r st : Nat) (room : Int) (hr1 : 20 ≤ room) (hr2 : room ≤ 512) (h : DoneS W w r st) :
    Calls Try.prog 20 #[.pointer (some ⟨r, 0, none⟩), .int .i64 room, .int .u64 (1000 : Nat)] w fun e w' => e = .returned (.tuple #[.agg (encF zeroF).toArray, .bool false]) ∧ DoneS W w' r st := by
  have H := Lib.hid h
  obtain ⟨s, n, ⟨fp, hO, hn, hb⟩, h2, h3, h5, h4⟩ := h
  rcases h4 with ⟨a1, a2, a3, a4⟩ | ⟨a2, a3⟩
  · obtain ⟨b1, b2, b3, b4⟩ := a3.fin a4
    have hl := a3.sent200.2.1
    obtain ⟨m, hm⟩ : ∃ m : Nat, room = (m : Int) + 20 := ⟨(room - 20).toNat, by omega⟩
    refine (snext_no r s fp room 1000 m 1000 w hO (by omega) (by omega) (by omega) (by omega) (by omega) (by rw [a2]; omega) (fun b fb W2 h0 => ?_)).mono ?_
    · refine onext_none b s.os fb m 1000 n n W2 h0 (by omega) (part_over b1 b2 hl 1000) (Nat.le_refl _) (by omega) (by omega) (fun _ _ => b3) (by omega) (by omega)
    · rintro e w' ⟨rfl, hb2⟩
      exact ⟨rfl, H.out.later hb2⟩
  · refine (snext_rno r s fp room 1000 w hO (by omega) (fun q => by rw [a3] at q; cases q) (by omega) (by omega)).mono ?_
    rintro e w' ⟨rfl, hb2⟩
    exact ⟨rfl, H.out.later hb2⟩
/-- Its slices are slices. -/
def FrSl (f : Fr) : Prop := (∃ a b c, f.vd = .slice a b c) ∧ ∃ a b c, f.vr = .slice a b c
theorem resetF_sl (id : Nat) (o : Option (Nat × Nat)) : FrSl (resetF id o) := by
  cases o <;> exact ⟨⟨_, _, _, rfl⟩, ⟨_, _, _, rfl⟩⟩
set_option maxRecDepth 100000 in
theorem ends_next (W w : World) (r n k : Nat) (reset : Bool) (hn200 : n ≤ 200) (h : EndR2 W w r n k reset) :
    Calls Try.prog 20 #[.pointer (some ⟨r, 0, none⟩), .int .i64 (40 : Int), .int .u64 (1000 : Nat)] w fun e w' => ∃ f ok, e = .returned (.tuple #[.agg (encF f).toArray, .bool ok]) ∧ FrSl f ∧
      ((ok = false ∧ DoneR W w' r reset) ∨ (ok = true ∧ MidR W w' r n k reset f)) := by
  obtain ⟨s, ⟨fp, hO, hn, hb⟩, hid, hsn, hph⟩ := h
  rcases hph with ⟨a1, a2, a3, a4, a5, a6, a7, a8, a9⟩ | ⟨hre, hs5, hrs, hrq, hk2⟩ | ⟨hre, hs6, hrq, hk2⟩
  · have hl := a4.sent200.2.1
    have hst3 := a4.ende
    rcases a4.next (k := 20) (by omega) with ⟨f, t0, t, b1, b2, b3, b4, b5, b6, b7, b8⟩ | ⟨b1, b2, b3, b4⟩ | ⟨b1, b2, b3, b4, b5⟩
    · obtain ⟨fin, hfin⟩ : ∃ fin, (decide (t = s.os.B.length) && s.os.ende) = fin := ⟨_, rfl⟩
      refine (snext_yes r s fp 40 1000 20 1000 f fin (s.os.went f t) ((s.os.B.drop f).take (t - f)) w hO (by omega) (by omega) (by omega) (by omega) (by omega) (by rw [a3]; omega) rfl (fun b fb W2 h0 => ?_)).mono ?_
      · rw [← hfin]
        exact onext_go b s.os fb (20 : Nat) 1000 f t0 t W2 h0 (by omega) b1 b2 b3 (by rw [Int.toNat_natCast]; exact b4) (by omega) (by omega) b6 b7 (by omega) (by omega)
      · rintro e w' ⟨v, rfl, hm, og, hsl, hog⟩
        have hdl : ((s.os.B.drop f).take (t - f)).length = t - f := by rw [List.length_take, List.length_drop]; omega
        obtain ⟨od, cd, rfl, hc1, hc2⟩ := hsl.vw.shape
        rw [hdl]
        rw [hid]
        refine ⟨_, _, rfl, ⟨⟨_, _, _, rfl⟩, ⟨_, _, _, rfl⟩⟩, .inr ⟨rfl, _, sdm_mine hn hb hm, hid, ?_, .inl ⟨od, f, t - f, cd, fin, rfl, by omega, by omega, ?_, ?_, ?_, a3, ?_, ?_, ?_, a8, ?_⟩⟩⟩
        · have := (show EM (s.os.went f t) n f t _ from b8).sent200
          show (s.os.went f t).sent ≤ 200
          omega
        · rw [show f + (t - f) = t by omega, ← hfin]
          exact b8
        · show 1 ≤ max (max s.st 2) (if fin then 3 else 0)
          omega
        · show max (max s.st 2) (if fin then 3 else 0) ≤ 4
          split <;> omega
        · intro q
          show 3 ≤ max (max s.st 2) (if fin then 3 else 0)
          have q : (s.os.es || (decide (t = s.os.B.length) && s.os.ende)) = true := q
          rw [hfin] at q
          cases fin
          · have := a5 (by simpa using q)
            omega
          · rw [if_pos rfl]
            omega
        · intro q
          show 3 ≤ max (max s.st 2) (if fin then 3 else 0)
          have := a6 q
          omega
        · intro q
          show max (max s.st 2) (if fin then 3 else 0) = 4
          have := a7 q
          split <;> omega
        · intro q
          show _ ∨ max (max s.st 2) (if fin then 3 else 0) = 4
          rcases a9 q with e | e
          · exact .inl e
          · right
            split <;> omega
    · refine (snext_yes r s fp 40 1000 20 1000 s.os.B.length true { s.os with es := true, el := false } [] w hO (by omega) (by omega) (by omega) (by omega) (by omega) (by rw [a3]; omega) rfl (fun b fb W2 h0 => ?_)).mono ?_
      · refine (onext_end b s.os fb (20 : Nat) 1000 W2 h0 (by omega) b1 (by omega) b3 (by omega) (by omega)).mono ?_
        rintro e w' ⟨rfl, hm⟩
        exact ⟨_, none, rfl, hm, SlG.nil _, fun g q => by cases q⟩
      · rintro e w' ⟨v, rfl, hm, og, hsl, hog⟩
        obtain ⟨od, cd, rfl, hc1, hc2⟩ := hsl.vw.shape
        rw [hl, hid]
        refine ⟨_, _, rfl, ⟨⟨_, _, _, rfl⟩, ⟨_, _, _, rfl⟩⟩, .inr ⟨rfl, _, sdm_mine hn hb hm, hid, hsn, .inl ⟨od, n, 0, cd, true, rfl, by omega, by omega, ?_, ?_, ?_, a3, ?_, ?_, ?_, a8, ?_⟩⟩⟩
        · exact b4
        · show 1 ≤ max (max s.st 2) (if true then 3 else 0)
          omega
        · show max (max s.st 2) (if true then 3 else 0) ≤ 4
          rw [if_pos rfl]
          omega
        · intro q
          show 3 ≤ max (max s.st 2) (if true then 3 else 0)
          rw [if_pos rfl]
          omega
        · intro q
          show 3 ≤ max (max s.st 2) (if true then 3 else 0)
          rw [if_pos rfl]
          omega
        · intro q
          show max (max s.st 2) (if true then 3 else 0) = 4
          have := a7 q
          rw [if_pos rfl]
          omega
        · intro q
          show _ ∨ max (max s.st 2) (if true then 3 else 0) = 4
          rw [if_pos rfl]
          rcases a9 q with e | e
          · exact .inl e
          · right
            omega
    · refine (done_next W w r 4 40 (by omega) (by omega) ⟨s, n, ⟨fp, hO, hn, hb⟩, hsn, hn200, a7 b5, .inl ⟨rfl, a3, a4, b5⟩⟩).mono ?_
      rintro e w' ⟨rfl, hd⟩
      exact ⟨_, _, rfl, ⟨⟨_, _, _, rfl⟩, ⟨_, _, _, rfl⟩⟩, .inl ⟨rfl, _, .inl rfl, hd⟩⟩
  · refine (snext_rst r s fp 40 1000 w hO (by omega) hrq ⟨_, hrs, by have := size4_le (resetF s.id s.rs); omega⟩ (by omega) (by omega)).mono ?_
    rintro e w' ⟨rfl, hm⟩
    refine ⟨_, _, rfl, resetF_sl _ _, .inr ⟨rfl, _, sdm_mine hn hb hm, hid, hsn, .inr ⟨hre, hs5, hrs, ?_, hk2⟩⟩⟩
    show resetF s.id s.rs = resetF 3 s.rs
    rw [hid]
  · refine (done_next W w r 6 40 (by omega) (by omega) ⟨s, n, ⟨fp, hO, hn, hb⟩, hsn, hn200, hs6, .inr ⟨rfl, hrq⟩⟩).mono ?_
    rintro e w' ⟨rfl, hd⟩
    exact ⟨_, _, rfl, ⟨⟨_, _, _, rfl⟩, ⟨_, _, _, rfl⟩⟩, .inl ⟨rfl, _, .inr ⟨hre, rfl⟩, hd⟩⟩
theorem strF_ok {off : Nat} {v : Value} {fin : Bool} (h : off ≤ 200) : FrOk (strF 3 off v fin) :=
  ⟨⟨by show (-9223372036854775808 : Int) ≤ 8; omega, by show (8 : Int) ≤ 9223372036854775807; omega⟩, by show 3 < _; omega, by show off < _; omega, by show 0 < _; omega, by show 0 < _; omega, by show 0 < _; omega⟩
set_option maxRecDepth 100000 in
theorem ends_lost (W w : World) (r n k : Nat) (reset : Bool) (f : Fr) (hk : k < 200) (h : MidR W w r n k reset f) :
    Calls Try.prog 23 #[.pointer (some ⟨r, 0, none⟩), .agg (encF f).toArray] w fun e w' => e = .returned (.tuple #[]) ∧ EndR W w' r n (k + 1) reset := by
  obtain ⟨s, ⟨fp, hO, hn, hb⟩, hid, hsn, hph⟩ := h
  rcases hph with ⟨od, off, len, cd, fin, rfl, hl, ho, a4, a1, a2, a3, a5, a6, a7, a8, a9⟩ | ⟨hre, hs5, hrs, rfl, hk2⟩
  · obtain ⟨b1, b2, b3⟩ := a4.lost
    rw [show off + len - off = len by omega] at b1 b2 b3
    refine (slost_str r s fp (strF 3 off (.slice od len cd) fin) off len cd fin od _ _ w hO (strF_ok ho) rfl hid.symm rfl rfl rfl (by omega) rfl b1 b2 rfl).mono ?_
    rintro e w' ⟨rfl, hm⟩
    refine ⟨rfl, _, sdm_mine hn hb hm, hid, hsn, .inl ⟨a1, a2, a3, b3, a5, a6, a7, ?_, fun q => ?_⟩⟩
    · have := vv_le (s := { s.os with ys := lostY s.os (s.os.lostB (s.os.kn off (len : Nat))) s.os.xs.length, el := s.os.el || (fin && s.os.es) }) (n := n)
      show k + 1 + vv { s.os with ys := lostY s.os (s.os.lostB (s.os.kn off (len : Nat))) s.os.xs.length, el := s.os.el || (fin && s.os.es) } n ≤ _
      omega
    · rcases a9 q with e | e
      · exact .inl (by omega)
      · exact .inr e
  · refine (slost_rst r s fp (resetF 3 s.rs) w hO (by rw [hrs]; rfl) (by rw [hrs, hid]; rfl) hs5).mono ?_
    rintro e w' ⟨rfl, hm⟩
    exact ⟨rfl, _, sdm_mine hn hb hm, hid, hsn, .inr (.inl ⟨hre, hs5, hrs, rfl, by omega⟩)⟩
set_option maxRecDepth 100000 in
theorem ends_ack (W w : World) (r n k : Nat) (reset : Bool) (f : Fr) (h : MidR W w r n k reset f) :
    Calls Try.prog 24 #[.pointer (some ⟨r, 0, none⟩), .agg (encF f).toArray] w fun e w' => e = .returned (.tuple #[]) ∧ EndR W w' r n (k + 1) reset := by
  obtain ⟨s, ⟨fp, hO, hn, hb⟩, hid, hsn, hph⟩ := h
  rcases hph with ⟨od, off, len, cd, fin, rfl, hl, ho, a4, a1, a2, a3, a5, a6, a7, a8, a9⟩ | ⟨hre, hs5, hrs, rfl, hk2⟩
  · obtain ⟨zs, yz, at_, b1, b2, b3, b4, b5, b6, b7, b8, b9, b10, b11⟩ := a4.acked
    rw [show off + len - off = len by omega] at b1 b4
    refine (sack_str r s fp (strF 3 off (.slice od len cd) fin) off len cd fin od zs yz at_ w hO (strF_ok ho) rfl hid.symm rfl rfl rfl (by omega) b4 b5 b1 b2 b3 b6 b7 b8).mono ?_
    rintro e w' ⟨rfl, hm⟩
    have hst : s.st ≤ (s.ackd (s.os.ackG zs yz at_ fin)).st ∧ (s.ackd (s.os.ackG zs yz at_ fin)).st ≤ 4 ∧ (s.st = 3 → (s.os.ackG zs yz at_ fin).whole = true → (s.ackd (s.os.ackG zs yz at_ fin)).st = 4) := by
      unfold SS.ackd
      refine ⟨?_, ?_, fun q1 q2 => ?_⟩
      · show s.st ≤ if _ then 4 else s.st
        split <;> omega
      · show (if _ then 4 else s.st) ≤ 4
        split <;> omega
      · show (if _ then 4 else s.st) = 4
        rw [if_pos ⟨q1, q2⟩]
    have hea : (s.os.ea || (fin && s.os.es)) = true → 3 ≤ s.st := by
      intro q
      simp only [Bool.or_eq_true, Bool.and_eq_true] at q
      rcases q with q | q
      · exact a6 q
      · exact a5 q.2
    refine ⟨rfl, _, sdm_mine hn hb hm, hid, hsn, .inl ⟨by omega, hst.2.1, a3, b9, fun q => ?_, fun q => ?_, fun q => ?_, ?_, fun q => ?_⟩⟩
    · have := a5 q
      omega
    · have := hea q
      omega
    · have q0 : (s.os.ackG zs yz at_ fin).whole = true := q
      have q : ((s.os.ackG zs yz at_ fin).fi && (s.os.ackG zs yz at_ fin).ea && decide ((s.os.ackG zs yz at_ fin).base = (s.os.ackG zs yz at_ fin).B.length)) = true := q
      simp only [Bool.and_eq_true] at q
      have h3 := hea q.1.2
      rcases Nat.lt_or_ge s.st 4 with h4 | h4
      · exact hst.2.2 (by omega) q0
      · omega
    · show k + 1 + vv (s.os.ackG zs yz at_ fin) n ≤ _
      omega
    · rcases a9 q with e | e
      · exact .inl (by omega)
      · exact .inr (by omega)
  · refine (sack_rst r s fp (resetF 3 s.rs) w hO (by rw [hrs]; rfl) (by rw [hrs, hid]; rfl) hs5).mono ?_
    rintro e w' ⟨rfl, hm⟩
    exact ⟨rfl, _, sdm_mine hn hb hm, hid, hsn, .inr (.inr ⟨hre, rfl, rfl, by omega⟩)⟩
/-- The rounds are over. -/
theorem EndR.done {W w : World} {r n k : Nat} {reset : Bool} (hn : n ≤ 200) (hk : 400 ≤ k) (h : EndR W w r n k reset) : DoneR W w r reset := by
  obtain ⟨s, h1, h2, h3, h4⟩ := h
  rcases h4 with ⟨a1, a2, a3, a4, a5, a6, a7, a8, a9⟩ | ⟨_, _, _, _, h⟩ | ⟨_, _, _, h⟩
  · have hw := (a4.over (by omega)).1
    exact ⟨4, .inl rfl, s, n, h1, h3, hn, a7 hw, .inl ⟨rfl, a3, a4, hw⟩⟩
  · omega
  · omega
theorem done_state (W w : World) (r st : Nat) (h : DoneS W w r st) :
    Calls Try.prog 26 #[.pointer (some ⟨r, 0, none⟩)] w fun e w' => e = .returned (.int .i64 st) ∧ ∃ q, w' = w.drewN q := by
  obtain ⟨s, n, ⟨fp, hO, hn, hb⟩, h2, h3, h5, h4⟩ := h
  rw [← h5]
  exact sstate_q r s fp w hO
theorem done_reset (W w : World) (r st : Nat) (h : DoneS W w r st) :
    Calls Try.prog 18 #[.pointer (some ⟨r, 0, none⟩), .int .u64 (1 : Nat)] w fun e w' => e = .returned (.int .i64 (24 : Nat)) ∧ Below W.heap.size W w' := by
  obtain ⟨s, n, ⟨fp, hO, hn, hb⟩, h2, h3, h5, h4⟩ := h
  refine (sreset_any r s fp 1 w hO (by omega)).mono ?_
  have hr : s.rstN 1 = 24 := by
    unfold SS.rstN
    rw [if_pos]
    rcases h4 with h4 | h4
    · omega
    · omega
  rw [hr]
  rintro e wA ⟨rfl, hm⟩
  exact ⟨rfl, (sdm_mine hn hb hm).below⟩
end Go.Proofs.Ytncfbaabhceeoaa

/- DERIVED. A row of bytes that is laid down at once, as a view. -/
namespace Go.Proofs.Ytncfbaabhceeoaa
open Go.RowKit

theorem lit_vw {w : World} {g n c : Nat} {cs : Array Value} {t : TypeId} {z : Nat × Nat} {xs : List Nat} (h : w.heap[g]? = some (.cells cs t z)) (hl : cs.toList = flat encB xs) (hn : n = xs.length) (hc : n ≤ c) (hc2 : c ≤ 9223372036854775807) :
    Vw encB w w.heap.size (.slice (some ⟨g, 0, none⟩) n c) xs := (lit_vwa (fp := fun _ => False) h hl (fun q => q) hn hc hc2).vw
end Go.Proofs.Ytncfbaabhceeoaa

/- DERIVED. Walk of narthexlaw16's known. -/
namespace Go.Proofs.Ytncfbaabhceeoaa
open Go.RowKit

set_option maxRecDepth 100000 in
set_option maxHeartbeats 2000000 in
theorem sknown_any (w : World) : Calls Try.prog 25 #[] w fun e w' => e = .returned (.bool true) ∧ Below w.heap.size w w' := by
  have hcs := fun (w : World) (C : Array Value) (n c : Nat) => Lib.run_convert_bytes_const (P := Try.prog) w 36 5 C n c Try.underlying36 Try.underlying5
  go_enter Try.func25, Try.ntmps25
  go_wp2_with fail
  refine (sdnew_any 4 _ (by omega)).mono ?_
  rintro e w1 ⟨r, rfl, hm⟩
  have H1 := Lib.hid hm
  clear hm
  go_wp2_with fail
  obtain ⟨fp, hO, hn, hb⟩ := H1.out
  refine (sstate_q r _ fp _ (by exact hO)).mono ?_
  rw [show ((SS.new 4).st : Int) = 1 from rfl]
  rintro e w2 ⟨rfl, q, rfl⟩
  have H2 := Lib.hid (H1.out.drewN q)
  clear hO hn hb H1
  generalize w1.drewN q = w2 at *
  go_wp2_with fail
  obtain ⟨fp, hO, hn, hb⟩ := H2.out
  refine (sfinish_any r _ fp _ (by exact hO)).mono ?_
  rw [show (SS.new 4).closed = false from rfl]
  rintro e w3 ⟨rfl, hm⟩
  obtain ⟨s3, hs3⟩ : ∃ s3 : SS, { SS.new 4 with os := { (SS.new 4).os with fi := true } } = s3 := ⟨_, rfl⟩
  have H3 := Lib.hid (show SdMine w w3 r s3 from by rw [← hs3]; exact sdm_mine hn hb hm)
  have R3 := Lib.hid (show s3.wrN 1 = (0, 24) ∧ s3.wr [97] = s3 ∧ s3.st < 5 ∧ s3.os.B.length = 0 ∧ s3.os.sent = 0 by rw [← hs3]; refine ⟨rfl, rfl, by decide, rfl, rfl⟩)
  clear hs3
  clear hO hn hb hm H2
  go_wp2_with fail
  obtain ⟨fp, hO, hn, hb⟩ := H3.out.later ((Below.refl _ _).alloc (Nat.le_refl _) (.cells #[.int .u8 97] 5 (1, 2)))
  refine (swrite_any r s3 fp _ [97] _ (by exact hO) (by exact lit_vw (alloc_at _ _) rfl rfl (by omega) (by omega)) (Nat.le_refl _) (by unfold Bys; decide) (by rw [R3.out.2.2.2.1]; omega) (by decide) (by rw [R3.out.2.2.2.1]; omega)).mono ?_
  rw [show ([97] : List Nat).length = 1 from rfl, R3.out.1, R3.out.2.1]
  rintro e w4 ⟨rfl, hm⟩
  have H4 := Lib.hid (sdm_mine hn hb hm)
  clear hO hn hb hm H3
  go_wp2_with fail
  obtain ⟨fp, hO, hn, hb⟩ := H4.out
  refine (snext_few r s3 fp 3 9 _ (by exact hO) R3.out.2.2.1 (by omega)).mono ?_
  rintro e w5 ⟨rfl, hb5⟩
  have H5 := Lib.hid (H4.out.later hb5)
  clear hO hn hb hb5 H4
  go_wp2_with (refine wpList_store_row rfl 39 (.tmp 4) (.tmp 29) rfl _ _ rfl rfl 39 zcells (by exact alloc_at _ _) (by rw [sizeF]; rfl) rfl (by simp [Value.oneCell', encF, zeroF]) ?_)
  obtain ⟨fp, hO, hn, hb⟩ := H5.out.later (setRow_below ((Below.refl w5.heap.size w5).alloc (Nat.le_refl _) (.cells zcells 39)) (Nat.le_refl w5.heap.size) (cs := (encF zeroF).toArray))
  refine (ssent_q r s3 fp _ (by exact hO)).mono ?_
  rw [R3.out.2.2.2.2]
  rintro e w6 ⟨rfl, q6, rfl⟩
  have HB := Lib.hid (below_drewN hb q6)
  clear hO hn hb H5
  go_wp2_with fail
  go_ret
  exact ⟨rfl, HB.out⟩
end Go.Proofs.Ytncfbaabhceeoaa

/- DERIVED. Walk of narthexkeep's Cut. -/
namespace Go.Proofs.Ytncfbaabhceeoaa
open Go.RowKit
set_option maxHeartbeats 400000 in
theorem kcut_q (oa : Option Addr) (len cap n : Nat) (w : World) (h1 : len ≤ cap) (_h2 : cap ≤ 9223372036854775807) (h3 : n ≤ 9223372036854775807) :
    Calls Try.prog 15 #[.slice oa len cap, .int .i64 n] w fun e w' => e = .returned (.slice oa (min len n) cap) ∧ w' = w := by
  by_cases h : n < len
  · go_enter Try.func15, Try.ntmps15
    go_wp2_with fail
    go_ret
    exact ⟨by rw [Nat.min_eq_right (by omega)]; rfl, rfl⟩
  · go_enter Try.func15, Try.ntmps15
    go_wp2_with fail
    go_ret
    exact ⟨by rw [Nat.min_eq_left (by omega)]; rfl, rfl⟩
end Go.Proofs.Ytncfbaabhceeoaa

/- DERIVED. Walk of narthexlaw16's SenderEnds. -/
namespace Go.Proofs.Ytncfbaabhceeoaa
open Go.RowKit

theorem lvw {w : World} {B : Nat} {oa : Option Addr} {n cap : Nat} {L : List Bool} (h : Vw encL w B (.slice oa n cap) L) {i : Nat} {x : Bool} (ha : L[i]? = some x) :
    ∃ b off, oa = some ⟨b, off, none⟩ ∧ b < B ∧ w.cell? ⟨b, off + i, none⟩ = some (.bool x) := by
  obtain ⟨b, off, h1, h2, h3⟩ := h.el (k := 1) (fun _ => rfl) ha
  refine ⟨b, off, h1, h2, ?_⟩
  have := h3 0 (by omega)
  simpa [encL] using this
set_option maxRecDepth 100000 in
set_option maxHeartbeats 8000000 in
theorem ends_walk (va vc : Value) (la : List Nat) (lc : List Bool) (reset : Bool) (w : World) (ha : Vw encB w w.heap.size va la) (hba : Bys la) (hc : Vw encL w w.heap.size vc lc) :
    Calls Try.prog 5 #[va, vc, .bool reset] w fun e w' => e = .returned (.bool true) ∧ Below w.heap.size w w' := by
  obtain ⟨oa, lena, capa, rfl, hla, hca, hca2, hva⟩ := kcut_v ha 200 (by omega)
  have hA1 : (la.take 200).length = min lena 200 := by rw [List.length_take]; omega
  have hA2 : Bys (la.take 200) := fun x hx => hba x (List.mem_of_mem_take hx)
  obtain ⟨oc, capc, rfl, hcc1, hcc2⟩ := hc.shape
  clear ha hba
  generalize la.take 200 = A at *
  obtain ⟨n, hna, hna1, hna2⟩ : ∃ n, min lena 200 = n ∧ n ≤ 200 ∧ n ≤ capa := ⟨_, rfl, by omega, by omega⟩
  rw [hna] at hA1 hva
  have HVA := Lib.hid hva
  have HA := Lib.hid (And.intro hA1 hA2)
  have HNA := Lib.hid hna
  have HVC := Lib.hid hc
  clear hva hA1 hA2 hna hc hla
  generalize hnc : lc.length = nc at *
  have HNC := Lib.hid hnc
  clear hnc
  go_enter Try.func5, Try.ntmps5
  go_wp2_with fail
  refine (sdnew_any 3 _ (by omega)).mono ?_
  rintro e w1 ⟨r, rfl, hm⟩
  have H1 := Lib.hid hm
  clear hm
  go_wp2_with fail
  refine (kcut_q oa lena capa 200 _ hca hca2 (by omega)).mono ?_
  rw [HNA.out]
  rintro e w' ⟨rfl, hw⟩
  obtain rfl := hw
  go_wp2_with fail
  obtain ⟨fp, hO, hn, hb⟩ := H1.out
  refine (swrite_any r (SS.new 3) fp _ A _ (by exact hO) (by exact HVA.out.below hb) hb.size HA.out.2 (by show 0 ≤ _; omega) (by have := HA.out.1; omega) (by show 0 ≤ _; omega)).mono ?_
  obtain ⟨s2, hs2⟩ : ∃ s2, (SS.new 3).wr A = s2 := ⟨_, rfl⟩
  have HW := Lib.hid (show (SS.new 3).wrN A.length = (n, 0) ∧ s2 = { SS.new 3 with os := { OS.zero with B := A } } from by
    have hr : (SS.new 3).os.room = 2048 := rfl
    refine ⟨?_, ?_⟩
    · unfold SS.wrN
      rw [if_neg (by simp [SS.closed, SS.new, OS.zero]), if_neg (by rw [hr]; omega), hr, HA.out.1]
      congr 1
      omega
    · rw [← hs2]
      unfold SS.wr
      rw [if_neg (by simp [SS.closed, SS.new, OS.zero])]
      show ({ SS.new 3 with os := OS.zero.write A } : SS) = _
      have : OS.zero.write A = { OS.zero with B := A } := by
        unfold OS.write
        rw [show min A.length OS.zero.room = A.length from by show min A.length 2048 = _; have := HA.out.1; omega, List.take_length]
        rfl
      rw [this])
  rw [HW.out.1, hs2]
  rintro e w2 ⟨rfl, hm⟩
  have H2 := Lib.hid (sdm_mine hn hb hm)
  clear hO hn hb hm hs2 H1
  go_wp2_with fail
  obtain ⟨fp, hO, hn, hb⟩ := H2.out
  refine (sfinish_any r s2 fp _ (by exact hO)).mono ?_
  obtain ⟨s3, hs3⟩ : ∃ s3 : SS, { SS.new 3 with os := { OS.zero with B := A, fi := true } } = s3 := ⟨_, rfl⟩
  rw [show s2.closed = false from by rw [HW.out.2]; rfl]
  rintro e w3 ⟨rfl, hm⟩
  have H3 := Lib.hid (show SdMine w w3 r s3 from by
    rw [← hs3]
    have := sdm_mine hn hb hm
    rw [HW.out.2] at this
    exact this)
  have HS3 := Lib.hid hs3
  clear hO hn hb hm hs3 H2
  go_wp2_with fail
  obtain ⟨fp, hO, hn, hb⟩ := H3.out
  refine (slimit_any r s3 fp 1000 _ (by exact hO) (by omega)).mono ?_
  rintro e w4 ⟨rfl, hm⟩
  have H4 := Lib.hid (show EndR w w4 r n 0 reset from by
    refine ⟨_, sdm_mine hn hb hm, ?_, ?_, .inl ⟨?_, ?_, ?_, ?_, ?_, ?_, ?_, ?_, fun _ => .inl (by omega)⟩⟩
    all_goals rw [← HS3.out]
    · rfl
    · show 0 ≤ 200; omega
    · show 1 ≤ 1; omega
    · show 1 ≤ 4; omega
    · rfl
    · exact EI.start HA.out.1 hna1 HA.out.2
    · intro q; cases q
    · intro q; cases q
    · intro q; cases q
    · have := vv_le (s := { OS.zero with B := A, fi := true }) (n := n)
      show 0 + vv { OS.zero with B := A, fi := true } n ≤ _
      omega)
  clear hO hn hb hm H3 HS3 HW
  go_wp2_with fail
  go_loopw [10, 11, 12] (fun i _ _ wr => ∃ k : Nat, i = .int .i64 k ∧ k ≤ 400 ∧ EndR w wr r n k reset) (fun i _ _ _ => 400 - (intOf i).toNat)
  case atStart => exact ⟨0, rfl, by omega, H4.out⟩
  case round =>
    obtain ⟨k, rfl, hk, hst⟩ := hrel
    have HST := Lib.hid hst
    clear hst H4
    by_cases hlt : k < 400
    · go_upto_region 12 with fail
      go_cut [59] (fun v wx => v = .bool false ∧ EndR2 w wx r n k reset)
      case first =>
        by_cases h3 : reset = true ∧ k = 3
        · obtain ⟨rfl, rfl⟩ := h3
          obtain ⟨s, h1, h2, h3, h4⟩ := HST.out
          have HM := Lib.hid h1
          have HP := Lib.hid (And.intro h2 (And.intro h3 h4))
          obtain ⟨fp, hO, hn, hb⟩ := h1
          have hst6 := hO.ok.st
          have HO := Lib.hid hO
          obtain ⟨st, hste⟩ : ∃ st, s.st = st := ⟨_, rfl⟩
          have HSTE := Lib.hid hste
          rw [hste] at hst6
          clear h2 h3 h4 hO hn hb hste
          by_cases hs4 : st < 4
          · have hs4i : (st : Int) < 4 := by omega
            go_wp2_with fail
            refine (sstate_q r s fp _ (by exact HO.out)).mono ?_
            rw [HSTE.out]
            rintro e w5 ⟨rfl, q5, rfl⟩
            have HM5 := Lib.hid (HM.out.drewN q5)
            generalize wr.drewN q5 = w5 at *
            go_wp2_with fail
            obtain ⟨fp5, hO, hn, hb⟩ := HM5.out
            refine (sreset_any r s fp5 9 _ (by exact hO) (by omega)).mono ?_
            have hr : s.rstN 9 = 0 := by unfold SS.rstN; rw [HSTE.out, if_neg (by omega), if_neg (by omega)]
            rw [SS.rst, if_pos hr, hr]
            rintro e w6 ⟨rfl, hm⟩
            have HE := Lib.hid (show EndR2 w w6 r n 3 true from ⟨_, sdm_mine hn hb hm, HP.out.1, HP.out.2.1, .inr (.inl ⟨rfl, rfl, rfl, rfl, by omega⟩)⟩)
            clear hO hn hb hm hr
            go_wp2_with fail
            go_meet
            case rel => exact ⟨rfl, HE.out⟩
          · have hs4i : ¬ (st : Int) < 4 := by omega
            go_wp2_with fail
            refine (sstate_q r s fp _ (by exact HO.out)).mono ?_
            rw [HSTE.out]
            rintro e w5 ⟨rfl, q5, rfl⟩
            have HE := Lib.hid (show EndR2 w (wr.drewN q5) r n 3 true from by
              refine ⟨s, HM.out.drewN q5, HP.out.1, HP.out.2.1, ?_⟩
              rcases HP.out.2.2 with ⟨a1, a2, a3, a4, a5, a6, a7, a8, a9⟩ | h | h
              · exact .inl ⟨a1, a2, a3, a4, a5, a6, a7, a8, fun _ => .inr (by have := HSTE.out; omega)⟩
              · exact .inr (.inl ⟨rfl, h.2⟩)
              · exact .inr (.inr ⟨rfl, h.2⟩))
            go_wp2_with fail
            go_meet
            case rel => exact ⟨rfl, HE.out⟩
        · have HE := Lib.hid (HST.out.two h3)
          cases reset
          · go_wp2_with fail
            go_meet
            case rel => exact ⟨rfl, HE.out⟩
          · have hk3 : ¬ k = 3 := fun e => h3 ⟨rfl, e⟩
            go_wp2_with fail
            go_meet
            case rel => exact ⟨rfl, HE.out⟩
      case rest =>
        obtain ⟨rfl, hst2⟩ := hcut
        generalize wc = wr at *
        have HR2 := Lib.hid hst2
        clear hst2 HST
        go_wp2_with fail
        refine (ends_next w _ r n k reset hna1 (by exact HR2.out)).mono ?_
        rintro e w5 ⟨f, ok, rfl, ⟨⟨x1, x2, x3, hx⟩, ⟨y1, y2, y3, hy⟩⟩, hor⟩
        clear HR2
        rcases hor with ⟨rfl, hd⟩ | ⟨rfl, hd⟩
        · have H5 := Lib.hid hd
          clear hd
          go_wp2_with (refine wpList_store_row rfl 39 (.tmp 11) (.tmp 63) rfl _ _ rfl rfl 39 zcells (by exact alloc_at _ _) (by rw [sizeF]; rfl) rfl (by simp [Value.oneCell', encF, hx, hy]) ?_)
          have H6 := Lib.hid (H5.out.later (setRow_below ((Below.refl w5.heap.size w5).alloc (Nat.le_refl _) (.cells zcells 39)) (Nat.le_refl w5.heap.size) (cs := (encF f).toArray)))
          clear H5
          obtain ⟨st, hst, hd⟩ := H6.out
          have HD := Lib.hid hd
          clear hd H6
          rcases hst with rfl | ⟨rfl, rfl⟩
          · go_wp2_with fail
            refine (done_state w _ r 4 (by exact HD.out)).mono ?_
            rintro e w7 ⟨rfl, q7, rfl⟩
            cases reset
            · have H7 := Lib.hid (HD.out.drewN q7)
              go_wp2_with fail
              refine (done_state w _ r 4 (by exact H7.out)).mono ?_
              rintro e w8 ⟨rfl, q8, rfl⟩
              have H8 := Lib.hid (HD.out.drewN (q7 + q8))
              clear H7 HD
              go_wp2_with fail
              refine (done_next w _ r 4 400 (by omega) (by omega) (by exact H8.out)).mono ?_
              rintro e w9 ⟨rfl, hd⟩
              have H9 := Lib.hid hd
              clear hd
              go_wp2_with (refine wpList_store_row rfl 39 (.tmp 13) (.tmp 107) rfl _ _ rfl rfl 39 zcells (by exact alloc_at _ _) (by rw [sizeF]; rfl) rfl (by simp [Value.oneCell', encF, zeroF]) ?_)
              have HA := Lib.hid (H9.out.later (setRow_below ((Below.refl w9.heap.size w9).alloc (Nat.le_refl _) (.cells zcells 39)) (Nat.le_refl w9.heap.size) (cs := (encF zeroF).toArray)))
              clear H9
              refine (done_reset w _ r 4 (by exact HA.out)).mono ?_
              rintro e wA ⟨rfl, hb⟩
              have HB := Lib.hid hb
              clear hb HA
              go_wp2_with fail
              refine (sknown_any _).mono ?_
              rintro e wB ⟨rfl, hkb⟩
              have HC := Lib.hid (below_call HB.out HB.out.size hkb)
              go_wp2_with fail
              go_ret
              exact ⟨rfl, HC.out⟩
            · have H8 := Lib.hid (HD.out.drewN q7)
              clear HD
              go_wp2_with fail
              refine (done_next w _ r 4 400 (by omega) (by omega) (by exact H8.out)).mono ?_
              rintro e w9 ⟨rfl, hd⟩
              have H9 := Lib.hid hd
              clear hd
              go_wp2_with (refine wpList_store_row rfl 39 (.tmp 13) (.tmp 107) rfl _ _ rfl rfl 39 zcells (by exact alloc_at _ _) (by rw [sizeF]; rfl) rfl (by simp [Value.oneCell', encF, zeroF]) ?_)
              have HA := Lib.hid (H9.out.later (setRow_below ((Below.refl w9.heap.size w9).alloc (Nat.le_refl _) (.cells zcells 39)) (Nat.le_refl w9.heap.size) (cs := (encF zeroF).toArray)))
              clear H9
              refine (done_reset w _ r 4 (by exact HA.out)).mono ?_
              rintro e wA ⟨rfl, hb⟩
              have HB := Lib.hid hb
              clear hb HA
              go_wp2_with fail
              refine (sknown_any _).mono ?_
              rintro e wB ⟨rfl, hkb⟩
              have HC := Lib.hid (below_call HB.out HB.out.size hkb)
              go_wp2_with fail
              go_ret
              exact ⟨rfl, HC.out⟩
          · go_wp2_with fail
            refine (done_state w _ r 6 (by exact HD.out)).mono ?_
            rintro e w7 ⟨rfl, q7, rfl⟩
            have H7 := Lib.hid (HD.out.drewN q7)
            go_wp2_with fail
            refine (done_state w _ r 6 (by exact H7.out)).mono ?_
            rintro e w8 ⟨rfl, q8, rfl⟩
            have H8 := Lib.hid (HD.out.drewN (q7 + q8))
            clear H7 HD
            go_wp2_with fail
            refine (done_next w _ r 6 400 (by omega) (by omega) (by exact H8.out)).mono ?_
            rintro e w9 ⟨rfl, hd⟩
            have H9 := Lib.hid hd
            clear hd
            go_wp2_with (refine wpList_store_row rfl 39 (.tmp 13) (.tmp 107) rfl _ _ rfl rfl 39 zcells (by exact alloc_at _ _) (by rw [sizeF]; rfl) rfl (by simp [Value.oneCell', encF, zeroF]) ?_)
            have HA := Lib.hid (H9.out.later (setRow_below ((Below.refl w9.heap.size w9).alloc (Nat.le_refl _) (.cells zcells 39)) (Nat.le_refl w9.heap.size) (cs := (encF zeroF).toArray)))
            clear H9
            refine (done_reset w _ r 6 (by exact HA.out)).mono ?_
            rintro e wA ⟨rfl, hb⟩
            have HB := Lib.hid hb
            clear hb HA
            go_wp2_with fail
            refine (sknown_any _).mono ?_
            rintro e wB ⟨rfl, hkb⟩
            have HC := Lib.hid (below_call HB.out HB.out.size hkb)
            go_wp2_with fail
            go_ret
            exact ⟨rfl, HC.out⟩
        · have H5 := Lib.hid hd
          clear hd
          obtain ⟨lz, hlz⟩ : ∃ lz, (decide (k < nc) && decide (k < 200) && lc.getD k false) = lz := ⟨_, rfl⟩
          have HLZ := Lib.hid hlz
          clear hlz
          have H6 := Lib.hid (H5.out.later (setRow_below ((Below.refl w5.heap.size w5).alloc (Nat.le_refl _) (.cells zcells 39)) (Nat.le_refl w5.heap.size) (cs := (encF f).toArray)))
          clear H5
          go_upto_region 16 with (refine wpList_store_row rfl 39 (.tmp 11) (.tmp 63) rfl _ _ rfl rfl 39 zcells (by exact alloc_at _ _) (by rw [sizeF]; rfl) rfl (by simp [Value.oneCell', encF, hx, hy]) ?_)
          have HROW := Lib.hid (show ((w5.alloc (.cells zcells 39)).setRow w5.heap.size (encF f).toArray).heap[w5.heap.size]? = some (.cells (encF f).toArray 39 (0, 0)) from setRow_heap _ _ _ _ _ _ (alloc_at _ _))
          have HBW := Lib.hid (show Below w.heap.size w ((w5.alloc (.cells zcells 39)).setRow w5.heap.size (encF f).toArray) from by
            obtain ⟨s, h1, _⟩ := H6.out
            exact h1.below)
          go_cut [80] (fun v wx => v = .bool lz ∧ MidR w wx r n k reset f ∧ wx.heap[w5.heap.size]? = some (.cells (encF f).toArray 39 (0, 0)))
          case first =>
            by_cases q1 : k < nc
            · by_cases q2 : k < 200
              · obtain ⟨x, hx⟩ : ∃ x, lc[k]? = some x := ⟨_, List.getElem?_eq_getElem (by rw [HNC.out]; exact q1)⟩
                have hxl : x = lz := by
                  rw [← HLZ.out, List.getD_eq_getElem?_getD, hx]
                  simp [q1, q2]
                subst hxl
                obtain ⟨c, ofc, rfl, hc, q0⟩ := lvw HVC.out hx
                have q0 := cell_keep HBW.out hc q0
                unfold zcells at q0
                clear hx
                go_wp2_with fail
                go_meet
                case rel => exact ⟨rfl, H6.out, HROW.out⟩
              · have hxl : lz = false := by rw [← HLZ.out]; simp [q2]
                subst hxl
                go_wp2_with fail
                go_meet
                case rel => exact ⟨rfl, H6.out, HROW.out⟩
            · have hxl : lz = false := by rw [← HLZ.out]; simp [q1]
              subst hxl
              go_wp2_with fail
              go_meet
              case rel => exact ⟨rfl, H6.out, HROW.out⟩
          case rest =>
            obtain ⟨rfl, hM, hrow⟩ := hcut
            have HM := Lib.hid hM
            have HRW := Lib.hid hrow
            clear hM hrow H6 HROW HBW hx hy
            generalize wc = w6 at *
            cases lz
            · go_wp2_with (refine wpList_load_row rfl 39 (.tmp 11) rfl _ rfl _ _ (0, 0) _ (by exact HRW.out) Try.underlying39 rfl (by rw [sizeF]; rfl) ?_)
              refine (ends_ack w _ r n k reset f (by exact HM.out)).mono ?_
              rintro e w7 ⟨rfl, hm⟩
              have HR := Lib.hid hm
              clear hm HM HRW
              go_wp2_with fail
              go_roundw
              case rel => exact ⟨k + 1, by go_num, by omega, HR.out⟩
              case measure => simp [intOf]; omega
            · have hk3 : k < 200 := by
                have := HLZ.out
                simp only [Bool.and_eq_true, decide_eq_true_eq] at this
                omega
              go_wp2_with (refine wpList_load_row rfl 39 (.tmp 11) rfl _ rfl _ _ (0, 0) _ (by exact HRW.out) Try.underlying39 rfl (by rw [sizeF]; rfl) ?_)
              refine (ends_lost w _ r n k reset f hk3 (by exact HM.out)).mono ?_
              rintro e w7 ⟨rfl, hm⟩
              have HR := Lib.hid hm
              clear hm HM HRW
              go_wp2_with fail
              go_roundw
              case rel => exact ⟨k + 1, by go_num, by omega, HR.out⟩
              case measure => simp [intOf]; omega
    · obtain rfl : k = 400 := by omega
      have HD0 := Lib.hid (HST.out.done hna1 (Nat.le_refl _))
      clear HST
      obtain ⟨st, hst, hd⟩ := HD0.out
      have HD := Lib.hid hd
      clear hd HD0
      rcases hst with rfl | ⟨rfl, rfl⟩
      · go_wp2_with fail
        refine (done_state w _ r 4 (by exact HD.out)).mono ?_
        rintro e w7 ⟨rfl, q7, rfl⟩
        cases reset
        · have H7 := Lib.hid (HD.out.drewN q7)
          go_wp2_with fail
          refine (done_state w _ r 4 (by exact H7.out)).mono ?_
          rintro e w8 ⟨rfl, q8, rfl⟩
          have H8 := Lib.hid (HD.out.drewN (q7 + q8))
          clear H7 HD
          go_wp2_with fail
          refine (done_next w _ r 4 400 (by omega) (by omega) (by exact H8.out)).mono ?_
          rintro e w9 ⟨rfl, hd⟩
          have H9 := Lib.hid hd
          clear hd
          go_wp2_with (refine wpList_store_row rfl 39 (.tmp 13) (.tmp 107) rfl _ _ rfl rfl 39 zcells (by exact alloc_at _ _) (by rw [sizeF]; rfl) rfl (by simp [Value.oneCell', encF, zeroF]) ?_)
          have HA := Lib.hid (H9.out.later (setRow_below ((Below.refl w9.heap.size w9).alloc (Nat.le_refl _) (.cells zcells 39)) (Nat.le_refl w9.heap.size) (cs := (encF zeroF).toArray)))
          clear H9
          refine (done_reset w _ r 4 (by exact HA.out)).mono ?_
          rintro e wA ⟨rfl, hb⟩
          have HB := Lib.hid hb
          clear hb HA
          go_wp2_with fail
          refine (sknown_any _).mono ?_
          rintro e wB ⟨rfl, hkb⟩
          have HC := Lib.hid (below_call HB.out HB.out.size hkb)
          go_wp2_with fail
          go_ret
          exact ⟨rfl, HC.out⟩
        · have H8 := Lib.hid (HD.out.drewN q7)
          clear HD
          go_wp2_with fail
          refine (done_next w _ r 4 400 (by omega) (by omega) (by exact H8.out)).mono ?_
          rintro e w9 ⟨rfl, hd⟩
          have H9 := Lib.hid hd
          clear hd
          go_wp2_with (refine wpList_store_row rfl 39 (.tmp 13) (.tmp 107) rfl _ _ rfl rfl 39 zcells (by exact alloc_at _ _) (by rw [sizeF]; rfl) rfl (by simp [Value.oneCell', encF, zeroF]) ?_)
          have HA := Lib.hid (H9.out.later (setRow_below ((Below.refl w9.heap.size w9).alloc (Nat.le_refl _) (.cells zcells 39)) (Nat.le_refl w9.heap.size) (cs := (encF zeroF).toArray)))
          clear H9
          refine (done_reset w _ r 4 (by exact HA.out)).mono ?_
          rintro e wA ⟨rfl, hb⟩
          have HB := Lib.hid hb
          clear hb HA
          go_wp2_with fail
          refine (sknown_any _).mono ?_
          rintro e wB ⟨rfl, hkb⟩
          have HC := Lib.hid (below_call HB.out HB.out.size hkb)
          go_wp2_with fail
          go_ret
          exact ⟨rfl, HC.out⟩
      · go_wp2_with fail
        refine (done_state w _ r 6 (by exact HD.out)).mono ?_
        rintro e w7 ⟨rfl, q7, rfl⟩
        have H7 := Lib.hid (HD.out.drewN q7)
        go_wp2_with fail
        refine (done_state w _ r 6 (by exact H7.out)).mono ?_
        rintro e w8 ⟨rfl, q8, rfl⟩
        have H8 := Lib.hid (HD.out.drewN (q7 + q8))
        clear H7 HD
        go_wp2_with fail
        refine (done_next w _ r 6 400 (by omega) (by omega) (by exact H8.out)).mono ?_
        rintro e w9 ⟨rfl, hd⟩
        have H9 := Lib.hid hd
        clear hd
        go_wp2_with (refine wpList_store_row rfl 39 (.tmp 13) (.tmp 107) rfl _ _ rfl rfl 39 zcells (by exact alloc_at _ _) (by rw [sizeF]; rfl) rfl (by simp [Value.oneCell', encF, zeroF]) ?_)
        have HA := Lib.hid (H9.out.later (setRow_below ((Below.refl w9.heap.size w9).alloc (Nat.le_refl _) (.cells zcells 39)) (Nat.le_refl w9.heap.size) (cs := (encF zeroF).toArray)))
        clear H9
        refine (done_reset w _ r 6 (by exact HA.out)).mono ?_
        rintro e wA ⟨rfl, hb⟩
        have HB := Lib.hid hb
        clear hb HA
        go_wp2_with fail
        refine (sknown_any _).mono ?_
        rintro e wB ⟨rfl, hkb⟩
        have HC := Lib.hid (below_call HB.out HB.out.size hkb)
        go_wp2_with fail
        go_ret
        exact ⟨rfl, HC.out⟩
end Go.Proofs.Ytncfbaabhceeoaa
