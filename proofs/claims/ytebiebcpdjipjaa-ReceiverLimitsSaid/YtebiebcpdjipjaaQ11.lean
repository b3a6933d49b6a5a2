/- DERIVED. Walk of receiver's Read. -/
import Derived.Laws.Rows
import Derived.Test.YtebiebcpdjipjaaRows
import Derived.Test.YtebiebcpdjipjaaQ1
import Derived.Test.YtebiebcpdjipjaaQ2
import Derived.Test.YtebiebcpdjipjaaQ5
import Derived.Test.YtebiebcpdjipjaaQ9
import Derived.Test.YtebiebcpdjipjaaQ10
namespace Go.Proofs.Ytebiebcpdjipjaa
open Go.RowKit

set_option maxRecDepth 100000 in
set_option maxHeartbeats 1000000 in
theorem rread_reset (r : Nat) (s : RS) (fp : Nat → Prop) (m : Int) (w : World) (h : RAt w r s fp) (hst : s.st = 5) :
    Calls Try.prog 12 #[.pointer (some ⟨r, 0, none⟩), .int .i64 m] w fun e w' => e = .returned (.tuple #[.slice none 0 0, .bool false, .int .u64 s.code, .int .i64 29]) ∧ RM w w' fp r { s with st := 6 } := by
  obtain ⟨b, hgo⟩ := h.go
  obtain ⟨c2, c4, c5, c6, hf⟩ := hgo.cells
  obtain ⟨d2, d4, d5, d6, hf2⟩ := (hgo.setSt 6 (by omega) (by omega)).cells
  have hf := hf 2
  have HG := Lib.hid (hgo.setSt 6 (by omega) (by omega))
  replace c2 : w.cell? ⟨r, 2, none⟩ = some (.int .i64 5) := by rw [hst] at c2; exact c2
  replace d5 : (w.setCell ⟨r, 2, none⟩ (.int .i64 6)).cell? ⟨r, 5, none⟩ = some (.int .u64 s.code) := d5
  generalize s.code = cd at *
  clear h hgo hst d2 d4 d6 c4 c6 hf2 c5
  go_enter Try.func12, Try.ntmps12
  go_wp2_with fail
  go_quiet (fail)
  go_wp2_with fail
  (try simp only [Exit.inBlock, Exit.then])
  refine bodyPost_ret (results_tmp4 rfl _ _ _) rfl ?_
  exact ⟨rfl, HG.out.rm.later (below_drewN (Below.refl _ _) _)⟩
set_option maxRecDepth 100000 in
set_option maxHeartbeats 1000000 in
theorem rread_over (r : Nat) (s : RS) (fp : Nat → Prop) (m : Int) (w : World) (h : RAt w r s fp) (hst : s.st = 4 ∨ s.st = 6) :
    Calls Try.prog 12 #[.pointer (some ⟨r, 0, none⟩), .int .i64 m] w fun e w' => e = .returned (.tuple #[.slice none 0 0, .bool false, .int .u64 0, .int .i64 24]) ∧ ∃ n, w' = w.drewN n := by
  obtain ⟨b, hgo⟩ := h.go
  obtain ⟨c2, c4, c5, c6, hf⟩ := hgo.cells
  clear h hgo hf c4 c5 c6
  generalize s.st = st at *
  rcases hst with rfl | rfl
  all_goals
    go_enter Try.func12, Try.ntmps12
    go_wp2_with fail
    (try simp only [Exit.inBlock, Exit.then])
    refine bodyPost_ret (results_tmp4 rfl _ _ _) rfl ?_
    exact ⟨rfl, 0, rfl⟩
set_option maxRecDepth 100000 in
set_option maxHeartbeats 1000000 in
theorem rread_any (r : Nat) (s : RS) (fp : Nat → Prop) (m : Int) (w : World) (h : RAt w r s fp) (hst : s.st ≤ 3) (hm : -9223372036854775808 ≤ m) (hm2 : m ≤ 9223372036854775807) {n : Nat} (hn : s.ib.num m = n) :
    Calls Try.prog 12 #[.pointer (some ⟨r, 0, none⟩), .int .i64 m] w fun e w' => ∃ v' fp', e = .returned (.tuple #[v', .bool (s.ib.take n).last, .int .u64 0, .int .i64 (if n = 0 ∧ (s.ib.take n).last = false then 26 else 0)]) ∧
      RAt w' r (s.tk n) fp' ∧ Went fp fp' w w' ∧ VwA encB (fun k => k < w.heap.size ∨ fp' k) w' v' (s.ib.out n) := by
  obtain ⟨b, hgo⟩ := h.go
  obtain ⟨c2, c4, c5, c6, hf⟩ := hgo.cells
  have hok := h.ok.st
  have HG := Lib.hid hgo
  generalize hs : s.st = st at *
  go_enter Try.func12, Try.ntmps12
  obtain ⟨fb, hb1, hb2⟩ := HG.out
  have n5 : ((st : Int) == 5) = false := by simp; omega
  have n4 : ((st : Int) == 4) = false := by simp; omega
  have n6 : ((st : Int) == 6) = false := by simp; omega
  have hbuf := hb1.buf
  have HBF := Lib.hid hbuf
  have HB1 := Lib.hid hb1
  clear h hgo hf c5 c6 hbuf hb1
  go_wp2_with fail
  refine (btake_any b s.ib fb m _ (by exact HBF.out) hm hm2 hn).mono ?_
  rintro e w1 ⟨v, fb', rfl, hi, hw, hv⟩
  have hfl := out_len (s := s.ib) (n := n) (by rw [← hn]; exact IB.num_le _ _)
  obtain ⟨oa, cap, rfl, hc1, hc2, hc3⟩ := hv
  rw [hfl] at hc1 ⊢
  have HA := Lib.hid (HB1.out.added hi hw)
  have HN := Lib.hid (show Went fp (fun j => j = r ∨ fb' j) w w1 from hb2.trans (g := fun j => j = r ∨ fb j) ⟨hw.upd.mono (fun j _ x => .inr x), by
    rintro k (q | q)
    · exact .inl (.inl q)
    · exact (hw.new k q).imp .inr id⟩)
  have HL := Lib.hid (show VwA encB (fun k => k < w.heap.size ∨ k = r ∨ fb' k) w1 (.slice oa n cap) (s.ib.out n) from ⟨oa, cap, by rw [hfl], by rw [hfl]; exact hc1, hc2, by
    rcases hc3 with x | ⟨b9, off, e1, e2, e3, e4⟩
    · exact .inl x
    · exact .inr ⟨b9, off, e1, e2, fun q => by
        have := heap_lt HB1.out.blk
        rcases q with q | q | q
        · exact e3 (.inl q)
        · exact e3 (.inl (by omega))
        · exact e3 (.inr q), e4⟩⟩)
  have HRW := Lib.hid (show r < w.heap.size from heap_lt HB1.out.blk)
  generalize hl : (s.ib.take n).last = la at *
  have q2 := free_at HA.out.blk 2
  have e2 : w1.cell? ⟨r, 2, none⟩ = some (.int .i64 s.st) := (cell_at HA.out.blk 2).trans rfl
  cases la
  · have e : s.tk n = { s with ib := s.ib.take n } := by unfold RS.tk; rw [hl]; rfl
    have HF := Lib.hid (show RAt w1 r (s.tk n) (fun j => j = r ∨ fb' j) from by rw [e]; exact ⟨b, fb', HA.out, rfl⟩)
    clear e c4 hc3
    clear q2 e2
    by_cases n0 : n = 0
    · subst n0
      go_wp2_with fail
      (try simp only [Exit.inBlock, Exit.then])
      refine bodyPost_ret (results_tmp4 rfl _ _ _) rfl ?_
      have ho : s.ib.out 0 = [] := List.eq_nil_of_length_eq_zero hfl
      rw [ho]
      exact ⟨_, rfl, _, HF.out, HN.out, ⟨none, 0, rfl, by simp, by omega, .inl rfl⟩⟩
    · have n1 : ((n : Int) == 0) = false := by simp; omega
      have hif : ¬ (n = 0 ∧ (s.ib.take n).last = false) := fun x => n0 x.1
      go_wp2_with fail
      (try simp only [Exit.inBlock, Exit.then])
      refine bodyPost_ret (results_tmp4 rfl _ _ _) rfl ?_
      first | exact ⟨_, rfl, _, HF.out, HN.out, HL.out⟩ | exact ⟨_, _, rfl, HF.out, HN.out, HL.out⟩
  · have e : s.tk n = { s with ib := s.ib.take n, st := 4 } := by unfold RS.tk; rw [hl]; rfl
    have HF := Lib.hid (show RAt (w1.setCell ⟨r, 2, none⟩ (.int .i64 4)) r (s.tk n) (fun j => j = r ∨ fb' j) from by rw [e]; exact ⟨b, fb', HA.out.setSt 4 (by omega) (by omega), rfl⟩)
    have HN2 := Lib.hid (show Went fp (fun j => j = r ∨ fb' j) w (w1.setCell ⟨r, 2, none⟩ (.int .i64 4)) from HN.out.trans ⟨(Upd.refl _ w1).setCell ⟨r, 2, none⟩ (.inl (.inl rfl)) _, fun k q => .inl q⟩)
    have HL2 := Lib.hid (HL.out.upd ((Upd.refl (fun j => j = r) w1).setCell ⟨r, 2, none⟩ (.inl rfl) (.int .i64 4)) (fun k hk => hk ▸ .inr (.inl rfl)))
    clear e c4 hc3
    by_cases n0 : n = 0
    · subst n0
      go_wp2_with fail
      (try simp only [Exit.inBlock, Exit.then])
      refine bodyPost_ret (results_tmp4 rfl _ _ _) rfl ?_
      exact ⟨_, rfl, _, HF.out, HN2.out, HL2.out⟩
    · have n1 : ((n : Int) == 0) = false := by simp; omega
      go_wp2_with fail
      (try simp only [Exit.inBlock, Exit.then])
      refine bodyPost_ret (results_tmp4 rfl _ _ _) rfl ?_
      exact ⟨_, rfl, _, HF.out, HN2.out, HL2.out⟩
end Go.Proofs.Ytebiebcpdjipjaa

/- DERIVED. A slice of bytes that is made. -/
namespace Go.Proofs.Ytebiebcpdjipjaa
open Go.RowKit

theorem make_bytes (n : Nat) (h : n ≤ 1000) : ∃ Z : Array Value, (∀ w : World, (Instr.makeSlice 22 (.int .i64 (n : Int)) (.int .i64 (n : Int))).run Try.prog w = .ok (.slice (some ⟨w.heap.size, 0, none⟩) n n) (w.alloc (.cells Z 5))) ∧ Z.toList = flat encB (List.replicate n 0) := by
  obtain ⟨i0, hi0, hz0, hz1, hz2'⟩ := info_parts infoB
  refine ⟨madeCells (Value.int .u8 0).cells n, fun w => ?_, ?_⟩
  · have := run_make (P := Try.prog) w 22 5 i0 _ Try.underlying22 hi0 hz0 .i64 .i64 n n (by omega) (by omega) (by rw [hz2']; omega) (by omega)
    rw [this, hz1]
    simp
  · show (madeCells #[Value.int .u8 0] n).toList = _
    rw [toList_madeCells_one, flatB, List.map_replicate]
    rfl
end Go.Proofs.Ytebiebcpdjipjaa

/- DERIVED. Walk of narthexlaw17's known. -/
namespace Go.Proofs.Ytebiebcpdjipjaa
open Go.RowKit

set_option maxRecDepth 100000 in
set_option maxHeartbeats 1000000 in
theorem rknown_any (w : World) : Calls Try.prog 14 #[] w fun e w' => e = .returned (.bool true) ∧ Below w.heap.size w w' := by
  obtain ⟨Z, hZ, hZl⟩ := make_bytes 10 (by decide)
  have HZL := Lib.hid hZl
  clear hZl
  replace hZ : ∀ w : World, (Instr.makeSlice 22 (.int .i64 10) (.int .i64 10)).run Try.prog w = .ok (.slice (some ⟨w.heap.size, 0, none⟩) 10 10) (w.alloc (.cells Z 5)) := hZ
  go_enter Try.func14, Try.ntmps14
  go_wp2_with fail
  refine (rnew_any 0 9 _ (by decide) (by decide)).mono ?_
  rintro e w1 ⟨r, rfl, hm⟩
  have H1 := Lib.hid hm
  clear hm
  obtain ⟨fp, hr, hn, hb⟩ := H1.out
  have HR := Lib.hid hr
  have HN := Lib.hid hn
  clear hr hn hb
  go_wp2_with fail
  refine (rlimit_q r (RS.new 0 9) fp _ (by exact HR.out)).mono ?_
  rintro e w2 ⟨rfl, q, rfl⟩
  rw [show (RS.new 0 9).lim = 9 from rfl]
  go_wp2_with fail
  have HR2 := Lib.hid ((HR.out.drewN q).below ((Below.refl _ _).alloc (Nat.le_refl _) (.cells Z 5)))
  have hnf : ¬ fp w1.heap.size := fun x => by have := HR.out.lt.2 _ x; omega
  have hal : ((w1.drewN q).alloc (.cells Z 5)).heap[w1.heap.size]? = some (.cells Z 5 (0, 0)) := alloc_at _ _
  have HV := Lib.hid (lit_vwa (fp := fp) (n := 10) (c := 10) hal HZL.out hnf (by simp) (by omega) (by omega))
  have HBW := Lib.hid (show Below w.heap.size w ((w1.drewN q).alloc (.cells Z 5)) from (below_drewN H1.out.below q).alloc (by have := H1.out.below.size; exact this) _)
  clear hal hnf
  go_wp2_with fail
  refine (ron_any r (RS.new 0 9) fp ⟨8, 0, 0, _, false, 0, 0, 0, 0, 0, .slice none 0 0, 0, 0, 0, 0, 0, 0, 0, 0⟩ _ 10 10 (List.replicate 10 0) _ (by exact HR2.out) (by constructor <;> dsimp only <;> omega) rfl (by exact HV.out) (by unfold Bys; decide) (by simp) (by omega)).mono ?_
  rw [show RS.onErr (RS.new 0 9) ⟨8, 0, 0, .slice (some ⟨w1.heap.size, 0, none⟩) 10 10, false, 0, 0, 0, 0, 0, .slice none 0 0, 0, 0, 0, 0, 0, 0, 0, 0⟩ 10 = 23 from rfl, show RS.on (RS.new 0 9) ⟨8, 0, 0, .slice (some ⟨w1.heap.size, 0, none⟩) 10 10, false, 0, 0, 0, 0, 0, .slice none 0 0, 0, 0, 0, 0, 0, 0, 0, 0⟩ (List.replicate 10 0) = RS.new 0 9 from rfl]
  rintro e w3 ⟨rfl, hm⟩
  have H3 := Lib.hid (rm_mine HN.out HBW.out hm)
  clear hm H1 HR HR2 HV HBW HN
  obtain ⟨fp3, hr, hn, hb⟩ := H3.out
  have HR := Lib.hid hr
  have HN := Lib.hid (And.intro hn hb)
  clear hr hn hb
  go_wp2_with fail
  refine (rread_any r (RS.new 0 9) fp3 5 _ (by exact HR.out) (by decide) (by omega) (by omega) (n := 0) (by rfl)).mono ?_
  rw [show ((RS.new 0 9).ib.take 0).last = false from rfl, if_pos ⟨rfl, rfl⟩, show (RS.new 0 9).tk 0 = RS.new 0 9 from rfl]
  rintro e w4 ⟨v4, fp4, rfl, hr, hw, hv⟩
  have H4 := Lib.hid (rm_mine HN.out.1 HN.out.2 ⟨fp4, hr, hw⟩)
  clear hr hw hv HR H3 HN
  obtain ⟨fp5, hr, hn, hb⟩ := H4.out
  have HR := Lib.hid hr
  have HN := Lib.hid (And.intro hn hb)
  clear hr hn hb
  go_wp2_with fail
  refine (ron_any r (RS.new 0 9) fp5 ⟨1, 0, 0, .slice none 0 0, false, 0, 0, 0, 0, 0, .slice none 0 0, 0, 0, 0, 0, 0, 0, 0, 0⟩ none 0 0 [] _ (by exact HR.out) ⟨by decide, by decide, by decide, by decide, by decide, by decide⟩ rfl ⟨none, 0, rfl, by simp, by omega, .inl rfl⟩ (by unfold Bys; decide) (by simp) (by omega)).mono ?_
  rw [show RS.onErr (RS.new 0 9) ⟨1, 0, 0, .slice none 0 0, false, 0, 0, 0, 0, 0, .slice none 0 0, 0, 0, 0, 0, 0, 0, 0, 0⟩ 0 = 1 from rfl, show RS.on (RS.new 0 9) ⟨1, 0, 0, .slice none 0 0, false, 0, 0, 0, 0, 0, .slice none 0 0, 0, 0, 0, 0, 0, 0, 0, 0⟩ [] = RS.new 0 9 from rfl]
  rintro e w6 ⟨rfl, hm⟩
  have H6 := Lib.hid (rm_mine HN.out.1 HN.out.2 hm)
  clear hm HR H4 HN
  obtain ⟨fp6, hr, hn, hb⟩ := H6.out
  have HR := Lib.hid hr
  clear hr hn hb
  go_wp2_with fail
  refine (rstate_q r (RS.new 0 9) fp6 _ (by exact HR.out)).mono ?_
  rintro e w7 ⟨rfl, q7, rfl⟩
  rw [show (RS.new 0 9).st = 1 from rfl]
  go_wp2_with fail
  go_ret
  exact ⟨rfl, (H6.out.drewN q7).below⟩
end Go.Proofs.Ytebiebcpdjipjaa

/- DERIVED. A struct is loaded from wherever it lies; the same as an operation that is run. -/
namespace Go.Proofs.Ytebiebcpdjipjaa
open Go.RowKit
variable {P : Program}

theorem run_loadVar_at (w : World) (b off : Nat) (ty : TypeId) (cs : List Value) (d : TypeDesc) (hc : ∀ j v, cs[j]? = some v → w.cell? ⟨b, off + j, none⟩ = some v)
    (hu : P.underlying ty = some d) (hd : (match d with | .struct _ | .array _ _ => true | _ => false) = true) (hi : (P.info? ty).map (·.size) = some cs.length) :
    (loadVar ty ⟨b, off, none⟩).run P w = .ok (.agg cs.toArray) w := by
  have hl : (loadCells ⟨b, off, none⟩ cs.length).run P w = .ok cs.toArray w :=
    run_loadCells_list (P := P) w ⟨b, off, none⟩ cs (fun j v hv => by
      rw [add_lit']
      exact hc j v hv)
  cases hq : P.info? ty with
  | none => simp [hq] at hi
  | some i =>
    have hs : i.size = cs.length := by simpa [hq] using hi
    have hagg : (isAgg ty).run P w = .ok true w := by
      unfold isAgg
      rw [Sem.run_bind, run_underlying hu w]
      cases d <;> simp_all
    simp [loadVar, Sem.run_bind, hagg, sizeOf, typeInfo, hq, hs, hl]
theorem wpList_load_at {ops : Array Oper} {rest : List Oper} {o : Oper} {a : Act} {w : World} {Q : Exit → Act → World → Prop} (hgd : o.guard = none) (ty : TypeId) (x : Operand) (ho : o.op = .load ty x)
    (b off : Nat) (hx : a.eval x = .pointer (some ⟨b, off, none⟩)) (cs : List Value) (d : TypeDesc) (hc : ∀ j v, cs[j]? = some v → w.cell? ⟨b, off + j, none⟩ = some v)
    (hu : P.underlying ty = some d) (hd : (match d with | .struct _ | .array _ _ => true | _ => false) = true) (hi : (P.info? ty).map (·.size) = some cs.length)
    (h : wpList P ops Q rest (a.put o.dst (.agg cs.toArray)) w) : wpList P ops Q (o :: rest) a w :=
  wpList_plain hgd fun _ hK => by
    unfold Oper.wp execOp
    simp only [ho, hx, Instr.loadAt, Instr.sureAddr, Sem.run_bind, Sem.run_pure, Result.andThen_ok, run_loadVar_at w b off ty cs d hc hu hd hi]
    exact hK _ _ h
theorem exec_load_row {o : Oper} {w : World} {f : Operand → Value} (ty : TypeId) (x : Operand) (ho : o.op = .load ty x)
    (g : Nat) (hx : f x = .pointer (some ⟨g, 0, none⟩)) (t : TypeId) (cs : Array Value) (fr : Nat × Nat) (d : TypeDesc) (hg : w.heap[g]? = some (.cells cs t fr))
    (hu : P.underlying ty = some d) (hd : (match d with | .struct _ | .array _ _ => true | _ => false) = true) (hi : (P.info? ty).map (·.size) = some cs.size) :
    (execOp f o).run P w = .ok (.value (.agg cs)) w := by
  unfold execOp
  simp only [ho, hx, Instr.loadAt, Instr.sureAddr, Sem.run_bind, Sem.run_pure, Result.andThen_ok, run_loadVar_row w g t ty cs fr d hg hu hd hi]
end Go.Proofs.Ytebiebcpdjipjaa

/- DERIVED. narthexlaw17's Asks: plain, in memory. -/
namespace Go.Proofs.Ytebiebcpdjipjaa
open Go.RowKit

def I64 (n : Int) : Prop := -9223372036854775808 ≤ n ∧ n ≤ 9223372036854775807
structure AkR where
  kd : Int
  off : Int
  most : Int
  i : Int
  n : Nat
  fin : Bool
  vd : Value
  fk : Int
  fa : Nat
  fb : Nat
  fc : Nat
  fd : Value
  ff : Bool
  fr : Value
  fn : Int
def encK (a : AkR) : List Value := [.int .i64 a.kd, .int .i64 a.off, .int .i64 a.most, .int .i64 a.i, .int .u64 a.n, .bool a.fin, a.vd,
  .int .i64 a.fk, .int .u64 a.fa, .int .u64 a.fb, .int .u64 a.fc, a.fd, .bool a.ff, a.fr, .int .i64 a.fn]
theorem encK_len (a : AkR) : (encK a).length = 15 := rfl
structure AkROk (w : World) (B : Nat) (a : AkR) : Prop where
  kd : I64 a.kd
  off : I64 a.off
  most : I64 a.most
  i : I64 a.i
  n : a.n < 18446744073709551616
  vd : ∃ L, Vw encB w B a.vd L ∧ Bys L
  fk : I64 a.fk
  fa : a.fa < 18446744073709551616
  fb : a.fb < 18446744073709551616
  fc : a.fc < 18446744073709551616
  fd : ∃ L, Vw encB w B a.fd L ∧ Bys L
  fr : ∃ L, Vw encU w B a.fr L ∧ ∀ x ∈ L, x < 18446744073709551616
  fn : I64 a.fn
theorem AkR.cells {w : World} {B : Nat} {oa : Option Addr} {n cap : Nat} {L : List AkR} (h : Vw encK w B (.slice oa n cap) L) {i : Nat} {a : AkR} (ha : L[i]? = some a) :
    ∃ b off, oa = some ⟨b, off, none⟩ ∧ b < B ∧ ∀ j v, (encK a)[j]? = some v → w.cell? ⟨b, off + i * 15 + j, none⟩ = some v := by
  obtain ⟨b, off, h1, h2, h3⟩ := h.el encK_len ha
  refine ⟨b, off, h1, h2, fun j v hj => ?_⟩
  have hl : j < 15 := by rw [List.getElem?_eq_some_iff] at hj; exact hj.1
  have := h3 j hl
  rw [this]
  exact hj
theorem sizeK : (Try.prog.info? 54).map (·.size) = some 15 := by kernel_rfl
/-- A receiver that hears of Stream frames alone. -/
structure LimI (k : Nat) (s : RS) : Prop where
  id : s.id = 3
  win : s.win = k
  so : s.so = false
  st : 1 ≤ s.st ∧ s.st ≤ 4
  hi : s.ib.hi ≤ s.lim
theorem LimI.new (k : Nat) (hk : k ≤ 2048) : LimI k (RS.new 3 k) ∧ (RS.new 3 k).lim = k := by
  refine ⟨⟨rfl, ?_, rfl, ⟨by show 1 ≤ 1; omega, by show 1 ≤ 4; omega⟩, Nat.zero_le _⟩, ?_⟩
  · show min k 2048 = k
    omega
  · show min k 2048 = k
    omega
theorem nextSt_bd {st : Nat} (b : IB) (h : 1 ≤ st ∧ st ≤ 4) : 1 ≤ nextSt st b ∧ nextSt st b ≤ 4 := by
  unfold nextSt
  simp only
  split <;> split <;> omega
theorem LimI.high {k : Nat} {s : RS} (h : LimI k s) : s.high = s.ib.hi := by
  unfold RS.high
  rw [if_neg (by have := h.st; omega)]
theorem LimI.on {k : Nat} {s : RS} (h : LimI k s) {f : Fr} {d : List Nat} (f1 : f.kd = 8) (f3 : f.off ≤ 400) (hd : d.length ≤ 40) :
    LimI k (s.on f d) ∧ (s.on f d).lim = s.lim ∧ (s.onErr f d.length = 0 → f.off + d.length ≤ s.lim) ∧ (s.onErr f d.length ≠ 0 → s.on f d = s) := by
  have hst := h.st
  by_cases hm : s.may f d.length = 0
  · have hle : f.off + d.length ≤ s.lim := by
      unfold RS.may at hm
      split at hm
      · cases hm
      · split at hm
        · cases hm
        · rename_i h3
          unfold endOf at h3
          rw [if_neg (by rw [f1]; omega)] at h3
          omega
    have eE : s.onErr f d.length = s.ib.err f.off d.length f.fin := by
      unfold RS.onErr
      rw [hm, if_neg (by simp), if_neg (by omega), if_neg (by rw [f1]; omega)]
    have eS : s.on f d = if s.ib.err f.off d.length f.fin ≠ 0 then s else { s with ib := s.ib.add f.off d f.fin, st := nextSt s.st (s.ib.add f.off d f.fin) } := by
      unfold RS.on
      rw [hm, if_neg (by simp), if_neg (by omega), if_neg (by rw [f1]; omega)]
    rw [eE, eS]
    by_cases he : s.ib.err f.off d.length f.fin = 0
    · rw [if_neg (by rw [he]; simp)]
      refine ⟨⟨h.id, h.win, h.so, nextSt_bd _ h.st, ?_⟩, rfl, fun _ => hle, fun x => absurd he x⟩
      show (s.ib.add f.off d f.fin).hi ≤ s.lim
      unfold IB.add
      rw [if_pos he]
      show max s.ib.hi (f.off + d.length) ≤ s.lim
      have := h.hi
      omega
    · rw [if_pos he]
      exact ⟨h, rfl, fun x => absurd x he, fun _ => rfl⟩
  · have eE : s.onErr f d.length = s.may f d.length := by
      unfold RS.onErr
      rw [if_pos hm]
    have eS : s.on f d = s := by
      unfold RS.on
      rw [if_pos hm]
    rw [eE, eS]
    exact ⟨h, rfl, fun x => absurd x hm, fun _ => rfl⟩
theorem LimI.nx {k : Nat} {s : RS} (h : LimI k s) (room : Int) : LimI k (s.nx room).1 ∧ s.lim ≤ (s.nx room).1.lim ∧ (s.lim < (s.nx room).1.lim → (s.nx room).1.lim ≤ (s.nx room).1.taken + k) := by
  unfold RS.nx
  rw [if_neg (by rw [h.so]; simp)]
  split
  · exact ⟨h, Nat.le_refl _, fun x => absurd x (Nat.lt_irrefl _)⟩
  · refine ⟨⟨h.id, h.win, h.so, h.st, ?_⟩, Nat.le_max_left _ _, fun x => ?_⟩
    · show s.ib.hi ≤ max s.lim s.top
      have := h.hi
      omega
    · show max s.lim s.top ≤ s.taken + k
      have hx : s.lim < max s.lim s.top := x
      have : s.top = s.taken + k := by unfold RS.top; rw [h.win]
      omega
theorem LimI.tk {k : Nat} {s : RS} (h : LimI k s) (n : Nat) : LimI k (s.tk n) ∧ (s.tk n).lim = s.lim := by
  refine ⟨⟨h.id, h.win, h.so, ?_, h.hi⟩, rfl⟩
  show 1 ≤ (if (s.ib.take n).last = true then 4 else s.st) ∧ (if (s.ib.take n).last = true then 4 else s.st) ≤ 4
  have := h.st
  split <;> omega
end Go.Proofs.Ytebiebcpdjipjaa

/- DERIVED. Walks of narthexbook's small functions. -/
namespace Go.Proofs.Ytebiebcpdjipjaa
open Go.RowKit

def withinS (n lo hi : Int) : Int := if lo ≤ n ∧ n ≤ hi then n else lo + n % (hi - lo + 1)
theorem withinS_bd (n lo hi : Int) (h : lo ≤ hi) : lo ≤ withinS n lo hi ∧ withinS n lo hi ≤ hi := by
  unfold withinS
  split
  · assumption
  · have := Int.emod_nonneg n (b := hi - lo + 1) (by omega)
    have := Int.emod_lt_of_pos n (b := hi - lo + 1) (by omega)
    omega
theorem tmod_fix (n m : Int) (hm : 0 < m) : (if n.tmod m < 0 then n.tmod m + m else n.tmod m) = n % m := by
  have h1 := Int.emod_nonneg n (b := m) (by omega)
  have h2 := Int.emod_lt_of_pos n (b := m) hm
  rcases Int.le_total 0 n with hn | hn
  · rw [Int.tmod_eq_emod_of_nonneg hn]
    split <;> omega
  · have h3 := Int.tmod_eq_emod (a := n) (b := m)
    have h4 := Int.emod_eq_zero_of_dvd (a := m) (b := n)
    have h5 : ((m.natAbs : Nat) : Int) = m := by omega
    split at h3
    · rename_i hd
      simp only [Int.sub_zero, Int.cast_ofNat_Int] at h3
      rcases hd with hd | hd
      · obtain rfl : n = 0 := by omega
        simp
      · have := h4 hd
        split <;> omega
    · split <;> omega
theorem tmod_bd (n m : Int) (hm : 0 < m) : -m ≤ n.tmod m ∧ n.tmod m < m := by
  have h := tmod_fix n m hm
  have h1 := Int.emod_nonneg n (b := m) (by omega)
  have h2 := Int.emod_lt_of_pos n (b := m) hm
  split at h <;> omega


set_option maxHeartbeats 1000000 in
theorem within_any (n lo hi : Int) (w : World) (h : lo ≤ hi) (h1 : -1099511627776 ≤ lo) (h2 : hi ≤ 1099511627776) (hn : -9223372036854775808 ≤ n) (hn2 : n ≤ 9223372036854775807) :
    Calls Try.prog 9 #[.int .i64 n, .int .i64 lo, .int .i64 hi] w fun e w' =>
      e = .returned (.int .i64 (withinS n lo hi)) ∧ w = w' := by
  obtain ⟨b1, b2⟩ := tmod_bd n (hi - lo + 1) (by omega)
  have hfix := Lib.hid (tmod_fix n (hi - lo + 1) (by omega))
  by_cases hc : lo ≤ n
  all_goals by_cases hd : n ≤ hi
  all_goals
    go_enter Try.func9, Try.ntmps9
    go_wp2
  all_goals (first | (exfalso; omega) | skip)
  all_goals go_ret
  all_goals refine ⟨ret_i64 ?_, rfl⟩
  all_goals have hfx := hfix.out
  all_goals unfold withinS
  all_goals first | (rw [if_pos ⟨hc, hd⟩]; done) | (rw [if_neg (by omega)]; split at hfx <;> omega)

end Go.Proofs.Ytebiebcpdjipjaa
