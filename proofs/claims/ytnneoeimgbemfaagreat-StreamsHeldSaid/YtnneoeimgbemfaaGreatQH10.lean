/- DERIVED. Walk of inbuf's Take. -/
import Derived.Deep.RegionLaw
import Derived.OwnWalk
import Derived.Laws.BytesArg
import Derived.Deep.DeepCutAuto
import Derived.Laws.Rows
import Derived.Test.YtnneoeimgbemfaaGreatQH3
import Derived.Test.YtnneoeimgbemfaaGreatQH4
import Derived.Test.YtnneoeimgbemfaaGreatQH8
import Derived.Test.YtnneoeimgbemfaaGreatQH9
set_option linter.all false
namespace Go.Proofs.YtnneoeimgbemfaaGreat
open Go.RowKit

theorem badd_any (b : Nat) (s : IB) (fp : Nat → Prop) (off : Nat) (vd : Value) (d : List Nat) (f : Bool) (w : World) (h : IbAt w b s fp) (hd : VwA encB fp w vd d) (hb : Bys d) (hoff : off < 18446744073709551616) :
    Calls Tryz.prog 48 #[.pointer (some ⟨b, 0, none⟩), .int .u64 off, vd, .bool f] w fun e w' => e = .returned (.int .i64 (s.err off d.length f : Nat)) ∧ ∃ fp', IbAt w' b (s.add off d f) fp' ∧ Went fp fp' w w' := by
  by_cases he : s.err off d.length f = 0
  · refine (badd_ok b s fp off vd d f w h hd hb hoff he).mono ?_
    rintro e w' ⟨rfl, fp', h1, h2⟩
    rw [he]
    refine ⟨rfl, fp', ?_, h2⟩
    unfold IB.add
    rw [if_pos he]
    exact h1
  · refine (badd_err b s fp off vd d f w h hd hoff he).mono ?_
    rintro e w' ⟨rfl, rfl⟩
    refine ⟨rfl, fp, ?_, Went.refl _ _⟩
    unfold IB.add
    rw [if_neg he]
    exact h
theorem CameIs.takeN {s : IB} {xs : List Rg} (h : CameIs s xs) {n : Nat} (hn : n ≤ rdy s.L) : CameIs (s.take n) xs := by
  refine ⟨h.1, fun k => ?_⟩
  rw [h.2 k, came_take hn]
  by_cases h1 : k < s.rd + n
  · by_cases h2 : k < s.rd
    · simp [IB.came, h2]
    · obtain ⟨v, hv⟩ := rdy_lt (L := s.L) (j := k - s.rd) (by omega)
      simp [IB.came, hv, h1]
  · simp [h1]
theorem take_rdy {L : List (Option Nat)} {n : Nat} (hn : n ≤ rdy L) : rdy (L.drop n) = rdy L - n := by
  apply rdy_is
  · intro j hj
    rw [gt_drop]
    obtain ⟨v, hv⟩ := rdy_lt (L := L) (j := n + j) (by omega)
    rw [hv]
    rfl
  · rw [gt_drop, show n + (rdy L - n) = rdy L by omega]
    exact rdy_end L
theorem IbAt.next {w : World} {b k : Nat} {s : IB} {fp : Nat → Prop} (h : IbAt w b (s.take k) fp) (hk : k < rdy s.L) : IbAt (w.setCell ⟨b, 0, none⟩ (.int .u64 ((s.rd + k + 1 : Nat) : Int))) b (s.take (k + 1)) fp := by
  obtain ⟨c, og, xs, cs, h, rfl⟩ := h
  have hu : Upd (fun j => j = b) w (w.setCell ⟨b, 0, none⟩ (.int .u64 ((s.rd + k + 1 : Nat) : Int))) := Upd.setCell (Upd.refl (fun j => j = b) w) ⟨b, 0, none⟩ (.inl rfl) _
  have e1 : (s.take k).take 1 = s.take (k + 1) := by simp [IB.take, Nat.add_assoc]
  have hr : 1 ≤ rdy (s.take k).L := by
    show 1 ≤ rdy (s.L.drop k)
    rw [take_rdy (by omega)]
    omega
  have hi := h.is.takeN hr
  have ho := IB.take_ok h.ok hr
  rw [e1] at hi ho
  refine ⟨c, og, xs, _, ⟨set_at h.blk 0 _, by simpa using h.size, ?_, ?_, ?_, ?_, ?_, ?_, h.came.keeps hu (fun e => h.ne e) (fun g hg e => h.apart (by rw [hg, e])), hi, ho, h.ne, h.apart⟩, rfl⟩
  · simp [h.size, IB.take, Nat.add_assoc]
  · simp; exact h.c1
  · simp; exact h.c2
  · simp; exact h.c3
  · intro j v hv
    rw [Array.getElem?_setIfInBounds, if_neg (by omega)]
    have := h.ring (j + 1) v (by
      simp only [IB.take] at hv ⊢
      rw [gt_drop] at hv ⊢
      rw [← hv]
      congr 1
      omega)
    rw [← this]
    simp only [IB.take]
    congr 3
    omega
  · simp; exact h.c5
theorem IbAt.byte {w : World} {b k : Nat} {s : IB} {fp : Nat → Prop} (h : IbAt w b (s.take k) fp) {v : Nat} (hv : gt s.L k = some v) : w.cell? ⟨b, 4 + (s.rd + k) % 2048, none⟩ = some (.int .u8 v) := by
  obtain ⟨c, og, xs, cs, h, _⟩ := h
  rw [cell_at h.blk]
  have := h.ring 0 v (by simp only [IB.take]; rw [gt_drop]; exact hv)
  simpa [IB.take] using this
theorem out_snoc {s : IB} {k v : Nat} (h : gt s.L k = some v) : s.out (k + 1) = s.out k ++ [v] := by
  unfold IB.out
  rw [List.take_add_one, bytesOf_get h]
  rfl
theorem IbAt.free0 {w : World} {b : Nat} {s : IB} {fp : Nat → Prop} (h : IbAt w b s fp) : w.frozen? ⟨b, 0, none⟩ = false := by
  obtain ⟨c, og, xs, cs, h, _⟩ := h
  exact free_at h.blk 0
/-- In the middle of Take. -/
structure TakeMid (w wr : World) (b : Nat) (s : IB) (fp : Nat → Prop) (k : Nat) (v : Value) : Prop where
  buf : IbAt wr b (s.take k) fp
  upd : Upd fp w wr
  out : ∃ og, SlG encB 5 wr v og (s.out k) ∧ ∀ g, og = some g → w.heap.size ≤ g

theorem TakeMid.bufOf {w wr W1 : World} {b : Nat} {s : IB} {fp : Nat → Prop} {k : Nat} {v : Value} {o : Obj} {og : Option Nat} (h : TakeMid w wr b s fp k v) (hw : fp b ∧ ∀ j, fp j → j < w.heap.size) (hg : ∀ g, og = some g → w.heap.size ≤ g)
    (hu : Upd (fun j => og = some j) (wr.alloc o).drew W1) : IbAt W1 b (s.take k) fp :=
  (h.buf.below (((Below.refl wr.heap.size wr).alloc (Nat.le_refl _) o).drew)).keeps hu (fun j hj e => by
    have := hw.2 j hj
    have := hg j e
    omega)
theorem TakeMid.kept {w wr W1 : World} {b : Nat} {s : IB} {fp : Nat → Prop} {k : Nat} {v : Value} {o : Obj} {og : Option Nat} {z : Nat} (h : TakeMid w wr b s fp k v) (hw : fp b ∧ ∀ j, fp j → j < w.heap.size) (hg : ∀ g, og = some g → w.heap.size ≤ g)
    (hu : Upd (fun j => og = some j) (wr.alloc o).drew W1) (hz : s.rd + k = z) : W1.cell? ⟨b, 0, none⟩ = some (.int .u64 z) ∧ W1.frozen? ⟨b, 0, none⟩ = false := by
  have hb := h.bufOf hw hg hu
  refine ⟨?_, hb.free0⟩
  rw [hb.cells.1, ← hz]
  rfl
theorem TakeMid.next {w wr W1 : World} {b : Nat} {s : IB} {fp : Nat → Prop} {k x z : Nat} {v v1 : Value} {o : Obj} {og og1 : Option Nat} (h : TakeMid w wr b s fp k v) (hw : fp b ∧ ∀ j, fp j → j < w.heap.size) (hk : k < rdy s.L) (hx : gt s.L k = some x) (hg : ∀ g, og = some g → w.heap.size ≤ g)
    (hs : SlG encB 5 W1 v1 og1 (s.out k ++ [x])) (ho : og1 = og ∨ ∃ g, og1 = some g ∧ (wr.alloc o).drew.heap.size ≤ g) (hu : Upd (fun j => og = some j) (wr.alloc o).drew W1) (hz : s.rd + k = z) :
    TakeMid w (W1.setCell ⟨b, 0, none⟩ (.int .u64 ((z : Int) + 1))) b s fp (k + 1) v1 := by
  have hb := h.bufOf hw hg hu
  have hbl := hw.2 b hw.1
  have e : ((z : Int) + 1) = ((s.rd + k + 1 : Nat) : Int) := by omega
  rw [e]
  have hg1 : ∀ g, og1 = some g → w.heap.size ≤ g := by
    intro g hg'
    rcases ho with rfl | ⟨g2, rfl, h4⟩
    · exact hg g hg'
    · cases hg'
      have := h.upd.size
      have e2 : (wr.alloc o).drew.heap.size = wr.heap.size + 1 := by simp
      omega
  have hu2 : Upd (fun j => j = b) W1 (W1.setCell ⟨b, 0, none⟩ (.int .u64 ((s.rd + k + 1 : Nat) : Int))) := Upd.setCell (Upd.refl (fun j => j = b) W1) ⟨b, 0, none⟩ (.inl rfl) _
  refine ⟨hb.next hk, ?_, og1, ?_, hg1⟩
  · have a1 : Upd fp w (wr.alloc o).drew := (h.upd.alloc o).drew
    have a2 := a1.trans hu (H := fp) (fun _ _ q => q) (fun j hj q => by have := hg j q; omega)
    exact a2.trans hu2 (H := fp) (fun _ _ q => q) (fun j _ q => by rw [q]; exact hw.1)
  · rw [out_snoc hx]
    refine hs.keeps hu2 ?_
    intro g hg' e3
    have := hg1 g hg'
    omega
theorem BufAt.addZero {w w3 : World} {b : Nat} {s : IB} {c : Nat} {og : Option Nat} {xs : List Rg} {cs : Array Value} {fp : Nat → Prop} {z : Nat} (h : BufAt w b s c og xs cs) (hfp : fp = fun j => j = b ∨ j = c ∨ og = some j) (hz : s.rd = z) (hz2 : z ≤ 4611686018427387904)
    (t : Turned w.drew c 2048 og (if 0 < z ∧ z ≤ 4611686018427387904 then addL 2048 xs 0 z else xs) w3) : ∃ fp', IbAt w3 b s fp' ∧ Went fp fp' w w3 := by
  obtain ⟨og', h1, h2, h3⟩ := t
  have hb := heap_lt h.blk
  have hi : CameIs s (if 0 < z ∧ z ≤ 4611686018427387904 then addL 2048 xs 0 z else xs) := by
    by_cases hz0 : 0 < z
    · rw [if_pos ⟨hz0, hz2⟩]
      have h5 := h.is.few h.ok
      have h6 := addN_len xs (0, z)
      have e : addL 2048 xs 0 z = addN xs (0, z) := by
        unfold addL
        rw [addRaw_is hz0 xs h.is.1, trim_all (by omega)]
      have h7 := h.is.take (n := 0) (Nat.zero_le _) (by omega) (by omega)
      rw [Nat.add_zero, hz] at h7
      rw [e]
      exact h7
    · rw [if_neg (by omega)]
      exact h.is
  have hne : ¬ (b = c ∨ og = some b) := by
    rintro (x | x)
    · exact h.ne x.symm
    · exact h.apart x
  refine ⟨fun j => j = b ∨ j = c ∨ og' = some j, ⟨c, og', _, cs, ⟨h3.keeps h.blk hne, h.size, h.c0, h.c1, h.c2, h.c3, h.ring, h.c5, h1, hi, h.ok, h.ne, ?_⟩, rfl⟩, ⟨?_, ?_⟩⟩
  · rcases h2 with rfl | rfl | ⟨g, rfl, h4⟩
    · exact h.apart
    · simp
    · intro e
      cases e
      have : w.drew.heap.size = w.heap.size := rfl
      omega
  · rw [hfp]
    exact ((Upd.refl (fun j => j = b ∨ j = c ∨ og = some j) w).drew).trans h3 (fun _ _ q => q) (fun j _ q => .inr q)
  · intro k hk
    rw [hfp]
    rcases hk with hk | hk | hk
    · exact .inl (.inl hk)
    · exact .inl (.inr (.inl hk))
    · rcases h2 with rfl | rfl | ⟨g, rfl, h4⟩
      · exact .inl (.inr (.inr hk))
      · cases hk
      · cases hk
        exact .inr h4
theorem SlG.clip {fp : Nat → Prop} {w : World} {oa : Option Addr} {n cap : Nat} {og : Option Nat} {xs : List Nat} (h : SlG encB 5 w (.slice oa n cap) og xs) (ha : ∀ g, og = some g → ¬ fp g) (hn : xs.length = n) : VwA encB fp w (.slice oa n n) xs := by
  subst hn
  rcases h with ⟨h1, rfl, rfl⟩ | ⟨g, ys, rfl, h1, hr, hl⟩
  · cases h1
    exact ⟨none, 0, rfl, by simp, by omega, .inl rfl⟩
  · cases h1
    refine ⟨_, _, rfl, Nat.le_refl _, by omega, .inr ⟨g, 0, rfl, heap_lt hr, ha g rfl, ?_⟩⟩
    intro j u hj
    rw [Nat.zero_add, hr.cell, flat_append, List.getElem?_append_left (by rw [List.getElem?_eq_some_iff] at hj; exact hj.1)]
    exact hj
end Go.Proofs.YtnneoeimgbemfaaGreat

/- DERIVED. Walk of narthexkeep's Cut. -/
namespace Go.Proofs.YtnneoeimgbemfaaGreat
open Go.RowKit
set_option maxHeartbeats 400000 in
theorem kcut_q (oa : Option Addr) (len cap n : Nat) (w : World) (h1 : len ≤ cap) (_h2 : cap ≤ 9223372036854775807) (h3 : n ≤ 9223372036854775807) :
    Calls Tryz.prog 6 #[.slice oa len cap, .int .i64 n] w fun e w' => e = .returned (.slice oa (min len n) cap) ∧ w' = w := by
  by_cases h : n < len
  · go_enter Tryz.func6, Tryz.ntmps6
    go_wp2_with fail
    go_ret
    exact ⟨by rw [Nat.min_eq_right (by omega)]; rfl, rfl⟩
  · go_enter Tryz.func6, Tryz.ntmps6
    go_wp2_with fail
    go_ret
    exact ⟨by rw [Nat.min_eq_left (by omega)]; rfl, rfl⟩
end Go.Proofs.YtnneoeimgbemfaaGreat

/- DERIVED. Frames as values; the receiver: plain, in memory. -/
namespace Go.Proofs.YtnneoeimgbemfaaGreat
open Go.RowKit

/-- A Stream's Stop frame, or the zero one. -/
def stopF (id : Nat) : Option Nat → Fr
  | none => ⟨0, 0, 0, .slice none 0 0, false, 0, 0, 0, 0, 0, .slice none 0 0, 0, 0, 0, 0, 0, 0, 0, 0⟩
  | some c => ⟨5, id, 0, .slice none 0 0, false, 0, c, 0, 0, 0, .slice none 0 0, 0, 0, 0, 0, 0, 0, 0, 0⟩
structure RS where
  id : Nat
  win : Nat
  st : Nat
  lim : Nat
  ib : IB
  code : Nat
  fnl : Nat
  sf : Option Nat
  sd : Bool
  so : Bool
  ag : Bool
def RS.new (id win : Nat) : RS := ⟨id, min win 2048, 1, min win 2048, IB.zero, 0, 0, none, false, false, false⟩
def RS.high (s : RS) : Nat := if 5 ≤ s.st then s.fnl else s.ib.hi
def RS.taken (s : RS) : Nat := if 5 ≤ s.st then s.fnl else s.ib.rd
def RS.szn (s : RS) : Nat := if 5 ≤ s.st then s.fnl else s.ib.fin
def RS.szd (s : RS) : Bool := if 5 ≤ s.st then true else s.ib.kn
def endOf (f : Fr) (n : Nat) : Nat := if f.kd = 4 then f.fnl else min f.off 4611686018427387903 + n
def lastOf (f : Fr) : Bool := decide (f.kd = 4) || f.fin
def RS.may (s : RS) (f : Fr) (n : Nat) : Nat :=
  if f.sid ≠ s.id ∨ (f.kd ≠ 8 ∧ f.kd ≠ 4) then 1
  else if s.lim < endOf f n then 23
  else if f.kd = 8 ∧ s.st < 5 ∧ 512 < n then 1
  else if (s.szd = true ∧ (s.szn < endOf f n ∨ (lastOf f = true ∧ endOf f n ≠ s.szn))) ∨ (lastOf f = true ∧ endOf f n < s.high) then 30
  else 0
/-- Behind a Stream frame's bytes: where it is. -/
def nextSt (st : Nat) (ib : IB) : Nat :=
  let a := if ib.kn = true ∧ st = 1 then 2 else st
  if a = 2 ∧ ib.whole = true then 3 else a
def RS.onErr (s : RS) (f : Fr) (n : Nat) : Nat :=
  if s.may f n ≠ 0 then s.may f n
  else if 5 ≤ s.st then 0
  else if f.kd = 4 then 0
  else s.ib.err f.off n f.fin
def RS.on (s : RS) (f : Fr) (d : List Nat) : RS :=
  if s.may f d.length ≠ 0 then s
  else if 5 ≤ s.st then s
  else if f.kd = 4 then (if s.st ≤ 2 then { s with st := 5, code := f.code, fnl := f.fnl } else s)
  else if s.ib.err f.off d.length f.fin ≠ 0 then s
  else { s with ib := s.ib.add f.off d f.fin, st := nextSt s.st (s.ib.add f.off d f.fin) }
structure RS.Ok (s : RS) : Prop where
  id : s.id < 18446744073709551616
  win : s.win ≤ 2048
  st : 1 ≤ s.st ∧ s.st ≤ 6
  lim : s.lim ≤ 1099511640000
  code : s.code < 18446744073709551616
  fnl : s.fnl ≤ 1099511640000
def rcells (s : RS) (b : Nat) (f : Fr) : Array Value := #[.int .u64 s.id, .int .u64 s.win, .int .i64 s.st, .int .u64 s.lim, .pointer (some ⟨b, 0, none⟩), .int .u64 s.code, .int .u64 s.fnl,
  .int .i64 f.kd, .int .u64 f.sid, .int .u64 f.off, f.vd, .bool f.fin, .int .u64 f.lim, .int .u64 f.code, .int .u64 f.fnl, .int .u64 f.seq, .int .u64 f.dly, f.vr,
  .int .u8 f.c0, .int .u8 f.c1, .int .u8 f.c2, .int .u8 f.c3, .int .u8 f.c4, .int .u8 f.c5, .int .u8 f.c6, .int .u8 f.c7, .bool s.sd, .bool s.so, .bool s.ag]
structure RAt0 (w : World) (r : Nat) (s : RS) (b : Nat) (fb : Nat → Prop) : Prop where
  blk : w.heap[r]? = some (.cells (rcells s b (stopF s.id s.sf)) 95 (0, 0))
  buf : IbAt w b s.ib fb
  ne : ¬ fb r
  ok : s.Ok
def RAt (w : World) (r : Nat) (s : RS) (fp : Nat → Prop) : Prop := ∃ b fb, RAt0 w r s b fb ∧ fp = fun j => j = r ∨ fb j
theorem RAt.keeps {F fp : Nat → Prop} {w w' : World} {r : Nat} {s : RS} (h : RAt w r s fp) (hu : Upd F w w') (hF : ∀ k, fp k → ¬ F k) : RAt w' r s fp := by
  obtain ⟨b, fb, h, rfl⟩ := h
  exact ⟨b, fb, ⟨hu.keeps h.blk (hF r (.inl rfl)), h.buf.keeps hu (fun k hk => hF k (.inr hk)), h.ne, h.ok⟩, rfl⟩
theorem RAt.lt {fp : Nat → Prop} {w : World} {r : Nat} {s : RS} (h : RAt w r s fp) : fp r ∧ ∀ k, fp k → k < w.heap.size := by
  obtain ⟨b, fb, h, rfl⟩ := h
  refine ⟨.inl rfl, ?_⟩
  rintro k (rfl | hk)
  · exact heap_lt h.blk
  · exact h.buf.lt.2 k hk
theorem RAt.below {fp : Nat → Prop} {w w' : World} {r : Nat} {s : RS} (h : RAt w r s fp) (hb : Below w.heap.size w w') : RAt w' r s fp :=
  h.keeps (Upd.below hb) (fun k hk => by have := h.lt.2 k hk; omega)
theorem RAt.drewN {fp : Nat → Prop} {w : World} {r : Nat} {s : RS} (h : RAt w r s fp) (n : Nat) : RAt (w.drewN n) r s fp := h.below (below_drewN (Below.refl _ _) n)
theorem RAt.ok {fp : Nat → Prop} {w : World} {r : Nat} {s : RS} (h : RAt w r s fp) : s.Ok := by
  obtain ⟨b, fb, h, _⟩ := h
  exact h.ok
theorem RAt.cells {fp : Nat → Prop} {w : World} {r : Nat} {s : RS} (h : RAt w r s fp) : w.cell? ⟨r, 0, none⟩ = some (.int .u64 s.id) ∧ w.cell? ⟨r, 1, none⟩ = some (.int .u64 s.win) ∧ w.cell? ⟨r, 2, none⟩ = some (.int .i64 s.st) ∧ w.cell? ⟨r, 3, none⟩ = some (.int .u64 s.lim) ∧
    w.cell? ⟨r, 5, none⟩ = some (.int .u64 s.code) ∧ w.cell? ⟨r, 6, none⟩ = some (.int .u64 s.fnl) := by
  obtain ⟨b, fb, h, _⟩ := h
  exact ⟨(cell_at h.blk 0).trans rfl, (cell_at h.blk 1).trans rfl, (cell_at h.blk 2).trans rfl, (cell_at h.blk 3).trans rfl, (cell_at h.blk 5).trans rfl, (cell_at h.blk 6).trans rfl⟩
/-- What a call turns: the receiver is as s', its blocks are those of the call's beginning, or new. -/
def RM (w0 w : World) (fp : Nat → Prop) (r : Nat) (s : RS) : Prop := ∃ fp', RAt w r s fp' ∧ Went fp fp' w0 w
theorem RM.refl {w : World} {fp : Nat → Prop} {r : Nat} {s : RS} (h : RAt w r s fp) : RM w w fp r s := ⟨fp, h, Went.refl _ _⟩
theorem RM.later {w0 w w' : World} {fp : Nat → Prop} {r : Nat} {s : RS} (h : RM w0 w fp r s) (hb : Below w.heap.size w w') : RM w0 w' fp r s := by
  obtain ⟨fp', h1, h2⟩ := h
  exact ⟨fp', h1.below hb, h2.later hb⟩
/-- All of new blocks, from a beginning on. -/
def RMine (W w : World) (r : Nat) (s : RS) : Prop := ∃ fp, RAt w r s fp ∧ (∀ k, fp k → W.heap.size ≤ k) ∧ Below W.heap.size W w
theorem RMine.below {W w : World} {r : Nat} {s : RS} (h : RMine W w r s) : Below W.heap.size W w := by
  obtain ⟨_, _, _, h⟩ := h
  exact h
theorem RMine.later {W w w' : World} {r : Nat} {s : RS} (h : RMine W w r s) (hb : Below w.heap.size w w') : RMine W w' r s := by
  obtain ⟨fp, h1, h2, h3⟩ := h
  exact ⟨fp, h1.below hb, h2, below_call h3 h3.size hb⟩
theorem RMine.drewN {W w : World} {r : Nat} {s : RS} (h : RMine W w r s) (n : Nat) : RMine W (w.drewN n) r s := h.later (below_drewN (Below.refl _ _) n)
theorem rm_mine {W w w' : World} {r : Nat} {s' : RS} {fp : Nat → Prop} (hn : ∀ k, fp k → W.heap.size ≤ k) (hb : Below W.heap.size W w) (m : RM w w' fp r s') : RMine W w' r s' := by
  obtain ⟨fp', h1, h2⟩ := m
  have hs := hb.size
  exact ⟨fp', h1, fun k hk => by
    rcases h2.new k hk with q | q
    · exact hn k q
    · omega, Upd.belowOf hb h2.upd (fun k hk q => by have := hn k q; omega)⟩
end Go.Proofs.YtnneoeimgbemfaaGreat

/- DERIVED. Walks of receiver's New, State, Limit, End, sized, Highest, May. -/
namespace Go.Proofs.YtnneoeimgbemfaaGreat
open Go.RowKit

set_option maxRecDepth 100000 in
set_option maxHeartbeats 1000000 in
theorem rnew_any (id win : Nat) (w : World) (hid : id < 18446744073709551616) (hw : win < 18446744073709551616) :
    Calls Tryz.prog 38 #[.int .u64 id, .int .u64 win] w fun e w' => ∃ r, e = .returned (.pointer (some ⟨r, 0, none⟩)) ∧ RMine w w' r (RS.new id win) := by
  obtain ⟨m, hm, hm2⟩ : ∃ m, min win 2048 = m ∧ m ≤ 2048 := ⟨_, rfl, by omega⟩
  have HM := Lib.hid hm
  have HB := Lib.hid (And.intro hid hw)
  go_enter Tryz.func38, Tryz.ntmps38
  go_upto_region 1 with fail
  go_cut [1] (fun v wx => v = .int .u64 m ∧ wx = w)
  case first =>
    by_cases h : 2048 < win
    · obtain rfl : m = 2048 := by omega
      clear hm
      go_wp2_with fail
      go_meet
      case rel => exact ⟨rfl, rfl⟩
    · obtain rfl : win = m := by omega
      clear hm HM
      go_wp2_with fail
      go_meet
      case rel => exact ⟨by first | rfl | (congr 1; omega), rfl⟩
  case rest =>
    obtain ⟨rfl, rfl⟩ := hcut
    clear hm
    go_wp2_with fail
    refine (bnew_any _).mono ?_
    rintro e w1 ⟨b, fp, rfl, hi, hn, hb⟩
    have HI := Lib.hid (And.intro hi (And.intro hn hb))
    clear hi hn hb
    go_wp2_with fail
    go_ret
    obtain ⟨hi, hn, hb⟩ := HI.out
    have hlt := hi.lt.2
    have ha := (Below.refl w1.heap.size w1)
    refine ⟨w1.heap.size, rfl, _, ⟨b, fp, ⟨?_, hi.below ((Below.refl _ _).alloc (Nat.le_refl _) _), fun q => by have := hlt _ q; omega, ⟨HB.out.1, by show min win 2048 ≤ _; omega, ⟨by show 1 ≤ 1; omega, by show 1 ≤ 6; omega⟩, ?_, by show 0 < _; omega, by show 0 ≤ _; omega⟩⟩, rfl⟩, ?_, hb.alloc hb.size _⟩
    · refine (alloc_at _ _).trans ?_
      simp only [rcells, RS.new, HM.out, stopF, IB.zero]
      rfl
    · show min win 2048 ≤ _
      omega
    · rintro k (rfl | q)
      · exact hb.size
      · exact hn k q
theorem RAt.ptr {fp : Nat → Prop} {w : World} {r : Nat} {s : RS} (h : RAt w r s fp) : ∃ b fb, IbAt w b s.ib fb ∧ (∀ j, fb j → fp j) ∧ w.cell? ⟨r, 4, none⟩ = some (.pointer (some ⟨b, 0, none⟩)) := by
  obtain ⟨b, fb, h, rfl⟩ := h
  exact ⟨b, fb, h.buf, fun j hj => .inr hj, (cell_at h.blk 4).trans rfl⟩
set_option maxHeartbeats 1000000 in
theorem rhigh_q (r : Nat) (s : RS) (fp : Nat → Prop) (w : World) (h : RAt w r s fp) : Calls Tryz.prog 36 #[.pointer (some ⟨r, 0, none⟩)] w fun e w' => e = .returned (.int .u64 s.high) ∧ ∃ n, w' = w.drewN n := by
  obtain ⟨_, _, c2, _, _, c6⟩ := h.cells
  obtain ⟨b, fb, hb, _, c4⟩ := h.ptr
  have HB := Lib.hid hb
  clear h hb
  by_cases h5 : 5 ≤ s.st
  · have e : s.high = s.fnl := if_pos h5
    rw [e]
    clear e
    generalize s.st = st at *
    go_enter Tryz.func36, Tryz.ntmps36
    go_wp2_with fail
    go_ret
    exact ⟨rfl, 0, rfl⟩
  · have e : s.high = s.ib.hi := if_neg h5
    rw [e]
    clear e
    generalize s.st = st at *
    go_enter Tryz.func36, Tryz.ntmps36
    go_wp2_with fail
    refine (bhigh_q b s.ib fb _ (by exact HB.out)).mono ?_
    rintro e w1 ⟨rfl, q, rfl⟩
    go_wp2_with fail
    go_ret
    exact ⟨rfl, q, rfl⟩
set_option maxHeartbeats 1000000 in
theorem rsized_q (r : Nat) (s : RS) (fp : Nat → Prop) (w : World) (h : RAt w r s fp) : Calls Tryz.prog 67 #[.pointer (some ⟨r, 0, none⟩)] w fun e w' => e = .returned (.tuple #[.int .u64 s.szn, .bool s.szd]) ∧ ∃ n, w' = w.drewN n := by
  obtain ⟨_, _, c2, _, _, c6⟩ := h.cells
  obtain ⟨b, fb, hb, _, c4⟩ := h.ptr
  have HB := Lib.hid hb
  clear h hb
  by_cases h5 : 5 ≤ s.st
  · have e : s.szn = s.fnl ∧ s.szd = true := ⟨if_pos h5, if_pos h5⟩
    rw [e.1, e.2]
    clear e
    generalize s.st = st at *
    go_enter Tryz.func67, Tryz.ntmps67
    go_wp2_with fail
    go_ret2
    exact ⟨rfl, 0, rfl⟩
  · have e : s.szn = s.ib.fin ∧ s.szd = s.ib.kn := ⟨if_neg h5, if_neg h5⟩
    rw [e.1, e.2]
    clear e
    generalize s.st = st at *
    go_enter Tryz.func67, Tryz.ntmps67
    go_wp2_with fail
    refine (bfinal_q b s.ib fb _ (by exact HB.out)).mono ?_
    rintro e w1 ⟨rfl, q, rfl⟩
    go_wp2_with fail
    go_ret2
    exact ⟨rfl, q, rfl⟩
set_option maxRecDepth 100000 in
set_option maxHeartbeats 1000000 in
theorem rend_any (f : Fr) (od : Option Addr) (n cd : Nat) (w : World) (hv : f.vd = .slice od n cd) (hn : n ≤ 9223372036854775807) (ho : f.off < 18446744073709551616) :
    Calls Tryz.prog 47 #[.agg (encF f).toArray] w fun e w' => e = .returned (.int .u64 (endOf f n)) ∧ Below w.heap.size w w' := by
  simp only [encF, hv]
  by_cases hk : f.kd = 4
  · have e : endOf f n = f.fnl := if_pos hk
    rw [e, hk]
    clear hv hk e
    go_enter Tryz.func47, Tryz.ntmps47
    go_wp2_with fail
    go_ret
    exact ⟨rfl, (Below.refl _ _).alloc (Nat.le_refl _) _⟩
  · have e : endOf f n = min f.off 4611686018427387903 + n := if_neg hk
    rw [e]
    obtain ⟨m, hm⟩ : ∃ m, min f.off 4611686018427387903 = m := ⟨_, rfl⟩
    obtain ⟨z, hz, hz2⟩ : ∃ z : Nat, (m : Int) + (n : Int) = (z : Int) ∧ m + n = z := ⟨m + n, by omega, rfl⟩
    rw [hm, hz2]
    have hzb : z ≤ 13835058055282163710 := by omega
    have hwn : IntKind.u64.wrap (n : Int) = n := IntWalk.u64_in _ (by omega)
    have hwz : IntKind.u64.wrap (z : Int) = z := IntWalk.u64_in _ (by omega)
    have hkb : (f.kd == 4) = false := by simpa using hk
    clear hv e hz2
    by_cases hmo : 4611686018427387903 < f.off
    · obtain rfl : m = 4611686018427387903 := by omega
      have hz' : (4611686018427387903 : Int) + (n : Int) = (z : Int) := by omega
      clear hm hz
      go_enter Tryz.func47, Tryz.ntmps47
      go_wp2_with fail
      go_ret
      exact ⟨by first | rfl | (congr 2; omega), (Below.refl _ _).alloc (Nat.le_refl _) _⟩
    · have hmm : f.off = m := by omega
      rw [hmm] at hmo ⊢
      clear hm hmm
      have hmi : ¬ (4611686018427387903 : Int) < (m : Int) := by omega
      go_enter Tryz.func47, Tryz.ntmps47
      go_wp2_with fail
      go_ret
      exact ⟨by first | rfl | (congr 2; omega), (Below.refl _ _).alloc (Nat.le_refl _) _⟩
set_option maxRecDepth 100000 in
set_option maxHeartbeats 4000000 in
theorem rmay_any (r : Nat) (s : RS) (fp : Nat → Prop) (f : Fr) (od : Option Addr) (n cd : Nat) (w : World) (h : RAt w r s fp) (hf : FrOk f) (hv : f.vd = .slice od n cd) (hn : n ≤ 9223372036854775807) :
    Calls Tryz.prog 46 #[.pointer (some ⟨r, 0, none⟩), .agg (encF f).toArray] w fun e w' => e = .returned (.int .i64 (s.may f n)) ∧ Below w.heap.size w w' := by
  obtain ⟨kd, sid, off, vd, fin, lim, code, fnl, seq, dly, vr, c0, c1, c2, c3, c4, c5, c6, c7⟩ := f
  obtain rfl : vd = .slice od n cd := hv
  obtain ⟨id, hid⟩ : ∃ id, s.id = id := ⟨_, rfl⟩
  have H := Lib.hid h
  have hst := h.ok.st
  obtain ⟨st, hst0⟩ : ∃ st, s.st = st := ⟨_, rfl⟩
  rw [hst0] at hst
  obtain ⟨lm, hlm⟩ : ∃ lm, s.lim = lm := ⟨_, rfl⟩
  have hoff := hf.off
  obtain ⟨hkd1, hkd2⟩ := hf.kd
  simp only at hoff hkd1 hkd2
  have HE := Lib.hid (fun w => rend_any ⟨kd, sid, off, .slice od n cd, fin, lim, code, fnl, seq, dly, vr, c0, c1, c2, c3, c4, c5, c6, c7⟩ od n cd w rfl hn hoff)
  obtain ⟨q, hq⟩ : ∃ q, s.may ⟨kd, sid, off, .slice od n cd, fin, lim, code, fnl, seq, dly, vr, c0, c1, c2, c3, c4, c5, c6, c7⟩ n = q := ⟨_, rfl⟩
  obtain ⟨E, hE⟩ : ∃ E, endOf ⟨kd, sid, off, .slice od n cd, fin, lim, code, fnl, seq, dly, vr, c0, c1, c2, c3, c4, c5, c6, c7⟩ n = E := ⟨_, rfl⟩
  obtain ⟨la, hla⟩ : ∃ la, (decide (kd = 4) || fin) = la := ⟨_, rfl⟩
  have HQ := Lib.hid (show (if sid ≠ id ∨ (kd ≠ 8 ∧ kd ≠ 4) then 1 else if lm < E then 23 else if kd = 8 ∧ st < 5 ∧ 512 < n then 1
      else if (s.szd = true ∧ (s.szn < E ∨ (la = true ∧ E ≠ s.szn))) ∨ (la = true ∧ E < s.high) then 30 else 0) = q from by
    rw [← hq, ← hE, ← hla, ← hid, ← hst0, ← hlm]
    rfl)
  rw [hq]
  simp only [encF, hE] at HE ⊢
  have HLA := Lib.hid hla
  have HC := Lib.hid (show ∀ W, Below w.heap.size w W → W.cell? ⟨r, 0, none⟩ = some (.int .u64 id) ∧ W.cell? ⟨r, 2, none⟩ = some (.int .i64 st) ∧ W.cell? ⟨r, 3, none⟩ = some (.int .u64 lm) from fun W hb => by
    obtain ⟨e0, _, e2, e3, _, _⟩ := (H.out.below hb).cells
    rw [hid] at e0
    rw [hst0] at e2
    rw [hlm] at e3
    exact ⟨e0, e2, e3⟩)
  obtain ⟨szn, hszn⟩ : ∃ x, s.szn = x := ⟨_, rfl⟩
  obtain ⟨szd, hszd⟩ : ∃ x, s.szd = x := ⟨_, rfl⟩
  obtain ⟨hi, hhi⟩ : ∃ x, s.high = x := ⟨_, rfl⟩
  rw [hszn, hszd, hhi] at HQ
  have HSZ := Lib.hid (And.intro hszn (And.intro hszd hhi))
  clear h hf hq hE hla hid hst0 hlm hszn hszd hhi
  go_enter Tryz.func46, Tryz.ntmps46
  go_upto_region 0 with fail
  go_cut [3] (fun v wx => ∃ z, v = .pointer (some ⟨z, 0, none⟩) ∧ Below w.heap.size w wx ∧ wx.heap[z]? = some (.cells #[.int .i64 kd, .int .u64 sid, .int .u64 off, .slice od n cd, .bool fin, .int .u64 lim, .int .u64 code, .int .u64 fnl, .int .u64 seq, .int .u64 dly, vr,
    .int .u8 c0, .int .u8 c1, .int .u8 c2, .int .u8 c3, .int .u8 c4, .int .u8 c5, .int .u8 c6, .int .u8 c7] 46 (0, 0)))
  case first =>
    as_aux_lemma =>
      go_wp2_with fail
      go_meet
      case rel => exact ⟨_, rfl, (Below.refl _ _).alloc (Nat.le_refl _) _, alloc_at _ _⟩
  case rest =>
    as_aux_lemma =>
      obtain ⟨z, rfl, hb1, hkz⟩ := hcut
      generalize wc = w1 at *
      have HB1 := Lib.hid hb1
      have HKZ := Lib.hid hkz
      obtain ⟨e0, e2, e3⟩ := HC.out _ hb1
      have z0 := (cell_at hkz 0).trans (by rfl : _ = some (Value.int .i64 kd))
      have z1 := (cell_at hkz 1).trans (by rfl : _ = some (Value.int .u64 sid))
      clear hb1 hkz
      obtain ⟨b1, hb1⟩ : ∃ b1, decide (sid ≠ id ∨ (kd ≠ 8 ∧ kd ≠ 4)) = b1 := ⟨_, rfl⟩
      have HB := Lib.hid hb1
      clear hb1
      go_upto_region 1 with fail
      go_cut [25] (fun v wx => v = .bool b1 ∧ ∃ q, wx = w1.drewN q)
      case first =>
        as_aux_lemma =>
          by_cases h1 : sid = id
          · rcases (by omega : kd = 8 ∨ (kd = 4) ∨ (¬ kd = 8 ∧ ¬ kd = 4)) with h2 | h2 | ⟨h2, h3⟩
            · have e : b1 = false := by rw [← HB.out]; simp [h1, h2]
              subst e h1 h2
              go_wp2_with fail
              go_quiet (fail)
              go_wp2_with fail
              go_meet
              case rel => exact ⟨by first | rfl | simp, _, rfl⟩
            · have e : b1 = false := by rw [← HB.out]; simp [h1, h2]
              subst e h1 h2
              go_wp2_with fail
              go_quiet (fail)
              go_wp2_with fail
              go_meet
              case rel => exact ⟨by first | rfl | simp, _, rfl⟩
            · have e : b1 = true := by rw [← HB.out]; simp [h2, h3]
              subst e h1
              have h2j : (kd != 8) = true := by simp [bne, h2]
              have h2k : (kd != 4) = true := by simp [bne, h3]
              clear h2 h3
              go_wp2_with fail
              go_quiet (fail)
              go_wp2_with fail
              go_meet
              case rel => exact ⟨by first | rfl | simp, _, rfl⟩
          · have e : b1 = true := by rw [← HB.out]; simp [h1]
            subst e
            have h1i : ((sid : Int) == (id : Int)) = false := by rw [eqN]; simp [h1]
            have h1j : ((sid : Int) != (id : Int)) = true := by simp only [bne, h1i]; rfl
            clear h1
            go_wp2_with fail
            go_quiet (fail)
            go_wp2_with fail
            go_meet
            case rel => exact ⟨by first | rfl | simp, _, rfl⟩
      case rest =>
        as_aux_lemma =>
          obtain ⟨rfl, x, rfl⟩ := hcut
          have HB1' := Lib.hid (below_drewN HB1.out x)
          have HKZ' := Lib.hid (show (w1.drewN x).heap[z]? = _ from HKZ.out)
          clear e0 e2 e3 z0 z1 HB1 HKZ
          generalize w1.drewN x = w2 at *
          obtain ⟨e0, e2, e3⟩ := HC.out _ HB1'.out
          cases b1
          · have hne : ¬ (sid ≠ id ∨ (kd ≠ 8 ∧ kd ≠ 4)) := by simpa using HB.out
            have HQ2 := Lib.hid ((if_neg hne).symm.trans HQ.out)
            clear hne HQ HB
            have hkz := HKZ'.out
            go_wp2_with (refine wpList_load_row rfl 46 (.tmp 3) rfl z rfl 46 _ (0, 0) _ (by exact hkz) Tryz.underlying46 rfl (by rw [sizeF]; rfl) ?_)
            clear hkz
            refine (HE.out _).mono ?_
            rintro e w3 ⟨rfl, hb3⟩
            have HB3 := Lib.hid (below_call HB1'.out HB1'.out.size hb3)
            have HKZ3 := Lib.hid (below_keeps hb3 HKZ'.out (heap_lt HKZ'.out))
            have H3 := Lib.hid (H.out.below HB3.out)
            clear hb3 e0 e2 e3 HKZ' HB1'
            go_wp2_with fail
            refine (rsized_q r s fp _ (by exact H3.out)).mono ?_
            rw [HSZ.out.1, HSZ.out.2.1]
            rintro e w4 ⟨rfl, y, rfl⟩
            have HB4 := Lib.hid (below_drewN HB3.out y)
            have HKZ4 := Lib.hid (show (w3.drewN y).heap[z]? = _ from HKZ3.out)
            have H4 := Lib.hid (H3.out.drewN y)
            clear HB3 HKZ3 H3
            generalize w3.drewN y = w4 at *
            obtain ⟨_, e2, e3⟩ := HC.out _ HB4.out
            have z0 := (cell_at HKZ4.out 0).trans (by rfl : _ = some (Value.int .i64 kd))
            have z3 := (cell_at HKZ4.out 3).trans (by rfl : _ = some (Value.slice od n cd))
            have z4 := (cell_at HKZ4.out 4).trans (by rfl : _ = some (Value.bool fin))
            go_upto_region 5 with fail
            go_cut [8] (fun v wx => v = .bool la ∧ wx = w4)
            case first =>
              as_aux_lemma =>
                by_cases hk : kd = 4
                · have e : la = true := by rw [← HLA.out]; simp [hk]
                  subst e hk
                  go_wp2_with fail
                  go_meet
                  case rel => exact ⟨rfl, rfl⟩
                · have e : la = fin := by rw [← HLA.out]; simp [hk]
                  subst e
                  have hkb : (kd == 4) = false := by simpa using hk
                  clear hk
                  go_wp2_with fail
                  go_meet
                  case rel => exact ⟨rfl, rfl⟩
            case rest =>
              as_aux_lemma =>
                obtain ⟨rfl, rfl⟩ := hcut
                clear z4 HE HKZ4
                generalize wc = w4 at *
                by_cases g1 : lm < E
                · have e : q = 23 := by rw [← HQ2.out, if_pos g1]
                  subst e
                  have g1i : (lm : Int) < (E : Int) := by omega
                  go_wp2_with fail
                  go_ret
                  exact ⟨rfl, HB4.out⟩
                · have g1i : ¬ (lm : Int) < (E : Int) := by omega
                  have HQ3 := Lib.hid ((if_neg g1).symm.trans HQ2.out)
                  clear HQ2
                  obtain ⟨b2, hb2⟩ : ∃ b2, decide (kd = 8 ∧ st < 5 ∧ 512 < n) = b2 := ⟨_, rfl⟩
                  have HB2 := Lib.hid hb2
                  clear hb2
                  go_upto_region 8 with fail
                  go_cut [47] (fun v wx => v = .bool b2 ∧ wx = w4)
                  case first =>
                    as_aux_lemma =>
                      by_cases k1 : kd = 8
                      · subst k1
                        by_cases k2 : st < 5
                        · have k2i : (st : Int) < 5 := by omega
                          by_cases k3 : 512 < n
                          · have e : b2 = true := by rw [← HB2.out]; simp [k2, k3]
                            subst e
                            have k3i : (512 : Int) < (n : Int) := by omega
                            go_wp2_with fail
                            go_meet
                            case rel => exact ⟨by first | rfl | simp, rfl⟩
                          · have e : b2 = false := by rw [← HB2.out]; simp [k3]
                            subst e
                            have k3i : ¬ (512 : Int) < (n : Int) := by omega
                            go_wp2_with fail
                            go_meet
                            case rel => exact ⟨by first | rfl | simp, rfl⟩
                        · have e : b2 = false := by rw [← HB2.out]; simp [k2]
                          subst e
                          have k2i : ¬ (st : Int) < 5 := by omega
                          go_wp2_with fail
                          go_meet
                          case rel => exact ⟨by first | rfl | simp, rfl⟩
                      · have e : b2 = false := by rw [← HB2.out]; simp [k1]
                        subst e
                        have k1b : (kd == 8) = false := by simpa using k1
                        go_wp2_with fail
                        go_meet
                        case rel => exact ⟨by first | rfl | simp, rfl⟩
                  case rest =>
                    as_aux_lemma =>
                      obtain ⟨rfl, rfl⟩ := hcut
                      clear z0 z3 e2 e3
                      generalize wc = w4 at *
                      cases b2
                      · have k0 : ¬ (kd = 8 ∧ st < 5 ∧ 512 < n) := by simpa using HB2.out
                        have HQ4 := Lib.hid ((if_neg k0).symm.trans HQ3.out)
                        clear k0 HQ3 HB2
                        obtain ⟨b3, hb3⟩ : ∃ b3, (szd && (decide (szn < E) || (la && decide (E ≠ szn)))) = b3 := ⟨_, rfl⟩
                        have HB3 := Lib.hid hb3
                        clear hb3
                        go_upto_region 10 with fail
                        go_cut [64] (fun v wx => v = .bool b3 ∧ wx = w4)
                        case first =>
                          as_aux_lemma =>
                            cases szd
                            · have e : b3 = false := by rw [← HB3.out]; rfl
                              subst e
                              go_wp2_with fail
                              go_meet
                              case rel => exact ⟨by first | rfl | simp, rfl⟩
                            · rcases (by omega : szn < E ∨ szn = E ∨ E < szn) with k1 | k1 | k1
                              · have e : b3 = true := by rw [← HB3.out]; simp [k1]
                                subst e
                                have k1i : (szn : Int) < (E : Int) := by omega
                                go_wp2_with fail
                                go_meet
                                case rel => exact ⟨by first | rfl | simp, rfl⟩
                              · subst k1
                                have e : b3 = false := by rw [← HB3.out]; simp
                                subst e
                                cases la
                                all_goals go_wp2_with fail
                                all_goals go_meet
                                all_goals (case rel => exact ⟨by first | rfl | trivial | simp, by first | rfl | trivial⟩)
                              · have k1i : ¬ (szn : Int) < (E : Int) := by omega
                                have k1n : ¬ szn < E := by omega
                                have hne : ¬ E = szn := by omega
                                have k1b : ((E : Int) == (szn : Int)) = false := by rw [eqN]; simp [hne]
                                have k1j : ((E : Int) != (szn : Int)) = true := by simp only [bne, k1b]; rfl
                                have e : b3 = la := by rw [← HB3.out]; simp [k1n, hne]
                                subst e
                                clear hne
                                cases b3
                                all_goals go_wp2_with fail
                                all_goals go_meet
                                all_goals (case rel => exact ⟨by first | rfl | trivial | simp, by first | rfl | trivial⟩)
                        case rest =>
                          as_aux_lemma =>
                            obtain ⟨rfl, rfl⟩ := hcut
                            generalize wc = w4 at *
                            cases b3
                            · have hnb : ¬ (szd = true ∧ (szn < E ∨ (la = true ∧ E ≠ szn))) := by
                                have := HB3.out
                                simpa using this
                              have HQ5 := Lib.hid (show (if la = true ∧ E < hi then 30 else 0) = q from by
                                rw [← HQ4.out]
                                by_cases y : la = true ∧ E < hi
                                · rw [if_pos y, if_pos (.inr y)]
                                · rw [if_neg y, if_neg (fun z => z.elim hnb y)])
                              clear hnb HQ4 HB3
                              cases la
                              · have e : q = 0 := by rw [← HQ5.out]; rfl
                                subst e
                                go_wp2_with fail
                                go_ret
                                exact ⟨rfl, HB4.out⟩
                              · go_wp2_with fail
                                refine (rhigh_q r s fp _ (by exact H4.out)).mono ?_
                                rw [HSZ.out.2.2]
                                rintro e w5 ⟨rfl, y, rfl⟩
                                have HB5 := Lib.hid (below_drewN HB4.out y)
                                generalize w4.drewN y = w5 at *
                                by_cases k1 : E < hi
                                · have e : q = 30 := by rw [← HQ5.out, if_pos (by simpa using k1)]
                                  subst e
                                  have k1i : (E : Int) < (hi : Int) := by omega
                                  go_wp2_with fail
                                  go_ret
                                  exact ⟨rfl, HB5.out⟩
                                · have e : q = 0 := by rw [← HQ5.out, if_neg (fun z => k1 z.2)]
                                  subst e
                                  have k1i : ¬ (E : Int) < (hi : Int) := by omega
                                  go_wp2_with fail
                                  go_ret
                                  exact ⟨rfl, HB5.out⟩
                            · have e : q = 30 := by
                                rw [← HQ4.out]
                                have := HB3.out
                                rw [if_pos (.inl (by simpa using this))]
                              subst e
                              go_wp2_with fail
                              go_ret
                              exact ⟨rfl, HB4.out⟩
                      · have k0 : (kd = 8 ∧ st < 5 ∧ 512 < n) := by simpa using HB2.out
                        have e : q = 1 := by rw [← HQ3.out, if_pos k0]
                        subst e
                        clear k0
                        go_wp2_with fail
                        go_ret
                        exact ⟨rfl, HB4.out⟩
          · have e : q = 1 := by
              rw [← HQ.out, if_pos (by simpa using HB.out)]
            subst e
            go_wp2_with fail
            go_ret
            exact ⟨rfl, HB1'.out⟩
end Go.Proofs.YtnneoeimgbemfaaGreat

/- DERIVED. streams' Set: plain, in memory. -/
namespace Go.Proofs.YtnneoeimgbemfaaGreat
open Go.RowKit

/-- What one end allows. -/
structure Pm where
  idle : Nat
  md : Nat
  msd : Nat
  ms : Nat
  c0 : Nat
  c1 : Nat
  c2 : Nat
  c3 : Nat
  c4 : Nat
  c5 : Nat
  c6 : Nat
  c7 : Nat
def encPm (p : Pm) : List Value := [.int .u64 p.idle, .int .u64 p.md, .int .u64 p.msd, .int .u64 p.ms, .int .u8 p.c0, .int .u8 p.c1, .int .u8 p.c2, .int .u8 p.c3, .int .u8 p.c4, .int .u8 p.c5, .int .u8 p.c6, .int .u8 p.c7]
def Pm.zero : Pm := ⟨0, 0, 0, 0, 0, 0, 0, 0, 0, 0, 0, 0⟩
structure Pm.Ok (p : Pm) : Prop where
  idle : p.idle < 18446744073709551616
  md : p.md < 18446744073709551616
  msd : p.msd < 18446744073709551616
  ms : p.ms < 18446744073709551616
/-- Both halves of a stream. -/
structure H1 where
  id : Nat
  s : SS
  r : RS
structure ST where
  mine : Pm
  theirs : Pm
  rest : Nat
  own : List H1
  others : List H1
  last : Nat
  told : Bool
  limit : Nat
  again : Bool
  allowed : Nat
def tcells (t : ST) (a b : Nat) : Array Value := #[.int .u64 t.mine.idle, .int .u64 t.mine.md, .int .u64 t.mine.msd, .int .u64 t.mine.ms, .int .u8 t.mine.c0, .int .u8 t.mine.c1, .int .u8 t.mine.c2, .int .u8 t.mine.c3, .int .u8 t.mine.c4, .int .u8 t.mine.c5, .int .u8 t.mine.c6, .int .u8 t.mine.c7,
  .int .u64 t.theirs.idle, .int .u64 t.theirs.md, .int .u64 t.theirs.msd, .int .u64 t.theirs.ms, .int .u8 t.theirs.c0, .int .u8 t.theirs.c1, .int .u8 t.theirs.c2, .int .u8 t.theirs.c3, .int .u8 t.theirs.c4, .int .u8 t.theirs.c5, .int .u8 t.theirs.c6, .int .u8 t.theirs.c7,
  .pointer (some ⟨a, 0, none⟩), .pointer (some ⟨b, 0, none⟩), .int .u64 t.last, .bool t.told, .int .u64 t.limit, .bool t.again, .int .u64 t.allowed]
/-- What a block is of: the set, a side, its row, a stream, its halves; or nothing of the set. -/
inductive Lab where
  | out
  | set
  | side (o : Bool)
  | row (o : Bool)
  | str (o : Bool) (i : Nat)
  | snd (o : Bool) (i : Nat)
  | rcv (o : Bool) (i : Nat)
def encY (y : Option Nat) : List Value := [.pointer (y.map fun y => ⟨y, 0, none⟩)]
theorem encY_len (y : Option Nat) : (encY y).length = 1 := rfl
theorem encY_one (y : Option Nat) : ∀ v ∈ encY y, v.oneCell' = true := by
  intro v hv
  simp only [encY, List.mem_cons, List.not_mem_nil, or_false] at hv
  subst hv
  rfl
structure H1Ok (ms rest i : Nat) (h : H1) : Prop where
  id : h.id = 4 * i + rest
  sid : h.s.id = h.id
  rid : h.r.id = h.id
def StrAt (w : World) (lab : Nat → Lab) (o : Bool) (i y : Nat) (h : H1) : Prop := ∃ bs br fs fr, w.heap[y]? = some (.cells #[.int .u64 h.id, .pointer (some ⟨bs, 0, none⟩), .pointer (some ⟨br, 0, none⟩)] 72 (0, 0)) ∧ lab y = .str o i ∧
  SdAt w bs h.s fs ∧ (∀ k, fs k → lab k = .snd o i) ∧ RAt w br h.r fr ∧ (∀ k, fr k → lab k = .rcv o i)
def SdeAt (w : World) (lab : Nat → Lab) (o : Bool) (x rest : Nat) (hs : List H1) : Prop := ∃ v og ys, w.heap[x]? = some (.cells #[.int .u64 rest, v] 65 (0, 0)) ∧ lab x = .side o ∧ SlG encY 73 w v og ys ∧ (∀ g, og = some g → lab g = .row o) ∧
  ys.length = hs.length ∧ ∀ i h, hs[i]? = some h → ∃ y, ys[i]? = some (some y) ∧ StrAt w lab o i y h
structure ST.Ok (t : ST) : Prop where
  mine : t.mine.Ok
  theirs : t.theirs.Ok
  rest : t.rest = 0 ∨ t.rest = 1
  own : t.own.length ≤ 1000
  others : t.others.length ≤ 1000
  hown : ∀ i h, t.own[i]? = some h → H1Ok 0 t.rest i h
  hothers : ∀ i h, t.others[i]? = some h → H1Ok 0 (1 - t.rest) i h
  last : t.last < 18446744073709551616
  limit : t.limit < 18446744073709551616
  allowed : t.allowed < 18446744073709551616
structure StAt (w : World) (p : Nat) (t : ST) (lab : Nat → Lab) (a b : Nat) : Prop where
  blk : w.heap[p]? = some (.cells (tcells t a b) 68 (0, 0))
  lp : lab p = .set
  own : SdeAt w lab true a t.rest t.own
  others : SdeAt w lab false b (1 - t.rest) t.others
  lt : ∀ k, lab k ≠ .out → k < w.heap.size
  ok : t.Ok
theorem StrAt.keeps {F : Nat → Prop} {w w' : World} {lab : Nat → Lab} {o : Bool} {i y : Nat} {h : H1} (hs : StrAt w lab o i y h) (hu : Upd F w w') (hF : ∀ k, F k → lab k ≠ .str o i ∧ lab k ≠ .snd o i ∧ lab k ≠ .rcv o i) : StrAt w' lab o i y h := by
  obtain ⟨bs, br, fs, fr, h1, h2, h3, h4, h5, h6⟩ := hs
  exact ⟨bs, br, fs, fr, hu.keeps h1 (fun q => (hF y q).1 h2), h2, h3.keeps hu (fun k hk q => (hF k q).2.1 (h4 k hk)), h4, h5.keeps hu (fun k hk q => (hF k q).2.2 (h6 k hk)), h6⟩
theorem StrAt.relab {w : World} {lab lab' : Nat → Lab} {o : Bool} {i y : Nat} {h : H1} (hs : StrAt w lab o i y h) (hl : ∀ k, k < w.heap.size → lab' k = lab k) : StrAt w lab' o i y h := by
  obtain ⟨bs, br, fs, fr, h1, h2, h3, h4, h5, h6⟩ := hs
  exact ⟨bs, br, fs, fr, h1, (hl y (heap_lt h1)).trans h2, h3, fun k hk => (hl k (h3.lt.2 k hk)).trans (h4 k hk), h5, fun k hk => (hl k (h5.lt.2 k hk)).trans (h6 k hk)⟩
theorem SdeAt.keeps {F : Nat → Prop} {w w' : World} {lab : Nat → Lab} {o : Bool} {x rest : Nat} {hs : List H1} (h : SdeAt w lab o x rest hs) (hu : Upd F w w') (hF : ∀ k, F k → lab k ≠ .side o ∧ lab k ≠ .row o ∧ ∀ i, lab k ≠ .str o i ∧ lab k ≠ .snd o i ∧ lab k ≠ .rcv o i) : SdeAt w' lab o x rest hs := by
  obtain ⟨v, og, ys, h1, h2, h3, h4, h5, h6⟩ := h
  refine ⟨v, og, ys, hu.keeps h1 (fun q => (hF x q).1 h2), h2, h3.keeps hu (fun g hg q => (hF g q).2.1 (h4 g hg)), h4, h5, fun i hh hi => ?_⟩
  obtain ⟨y, h7, h8⟩ := h6 i hh hi
  exact ⟨y, h7, h8.keeps hu (fun k hk => (hF k hk).2.2 i)⟩
theorem SdeAt.relab {w : World} {lab lab' : Nat → Lab} {o : Bool} {x rest : Nat} {hs : List H1} (h : SdeAt w lab o x rest hs) (hl : ∀ k, k < w.heap.size → lab' k = lab k) : SdeAt w lab' o x rest hs := by
  obtain ⟨v, og, ys, h1, h2, h3, h4, h5, h6⟩ := h
  refine ⟨v, og, ys, h1, (hl x (heap_lt h1)).trans h2, h3, fun g hg => (hl g (h3.lt g hg)).trans (h4 g hg), h5, fun i hh hi => ?_⟩
  obtain ⟨y, h7, h8⟩ := h6 i hh hi
  exact ⟨y, h7, h8.relab hl⟩
theorem StAt.keeps {F : Nat → Prop} {w w' : World} {p a b : Nat} {t : ST} {lab : Nat → Lab} (h : StAt w p t lab a b) (hu : Upd F w w') (hF : ∀ k, F k → lab k = .out) : StAt w' p t lab a b := by
  have hn : ∀ k l, F k → l ≠ Lab.out → lab k ≠ l := fun k l hk hl e => hl (e ▸ (hF k hk))
  refine ⟨hu.keeps h.blk (fun q => hn p .set q (by simp) h.lp), h.lp, h.own.keeps hu (fun k hk => ⟨hn k _ hk (by simp), hn k _ hk (by simp), fun i => ⟨hn k _ hk (by simp), hn k _ hk (by simp), hn k _ hk (by simp)⟩⟩),
    h.others.keeps hu (fun k hk => ⟨hn k _ hk (by simp), hn k _ hk (by simp), fun i => ⟨hn k _ hk (by simp), hn k _ hk (by simp), hn k _ hk (by simp)⟩⟩), fun k hk => ?_, h.ok⟩
  have := h.lt k hk
  have := hu.size
  omega
theorem StAt.below {w w' : World} {p a b : Nat} {t : ST} {lab : Nat → Lab} (h : StAt w p t lab a b) (hb : Below w.heap.size w w') : StAt w' p t lab a b :=
  h.keeps (Upd.below hb) (fun k hk => by
    cases hq : lab k with
    | out => rfl
    | _ => have := h.lt k (by rw [hq]; simp); omega)
theorem StAt.drewN {w : World} {p a b : Nat} {t : ST} {lab : Nat → Lab} (h : StAt w p t lab a b) (n : Nat) : StAt (w.drewN n) p t lab a b := h.below (below_drewN (Below.refl _ _) n)
/-- A set in memory, and its blocks. -/
def StF (w : World) (p : Nat) (t : ST) (fp : Nat → Prop) : Prop := ∃ lab a b, StAt w p t lab a b ∧ fp = fun k => lab k ≠ .out
theorem StF.keeps {F fp : Nat → Prop} {w w' : World} {p : Nat} {t : ST} (h : StF w p t fp) (hu : Upd F w w') (hF : ∀ k, fp k → ¬ F k) : StF w' p t fp := by
  obtain ⟨lab, a, b, h, rfl⟩ := h
  refine ⟨lab, a, b, h.keeps hu (fun k hk => ?_), rfl⟩
  cases hq : lab k with
  | out => rfl
  | _ => exact absurd hk (hF k (by show lab k ≠ .out; rw [hq]; simp))
theorem StF.lt {fp : Nat → Prop} {w : World} {p : Nat} {t : ST} (h : StF w p t fp) : fp p ∧ ∀ k, fp k → k < w.heap.size := by
  obtain ⟨lab, a, b, h, rfl⟩ := h
  exact ⟨by show lab p ≠ .out; rw [h.lp]; simp, h.lt⟩
theorem StF.below {fp : Nat → Prop} {w w' : World} {p : Nat} {t : ST} (h : StF w p t fp) (hb : Below w.heap.size w w') : StF w' p t fp :=
  h.keeps (Upd.below hb) (fun k hk => by have := h.lt.2 k hk; omega)
theorem StF.drewN {fp : Nat → Prop} {w : World} {p : Nat} {t : ST} (h : StF w p t fp) (n : Nat) : StF (w.drewN n) p t fp := h.below (below_drewN (Below.refl _ _) n)
theorem StF.ok {fp : Nat → Prop} {w : World} {p : Nat} {t : ST} (h : StF w p t fp) : t.Ok := by
  obtain ⟨lab, a, b, h, _⟩ := h
  exact h.ok
/-- What a call turns. -/
def TM (w0 w : World) (fp : Nat → Prop) (p : Nat) (t : ST) : Prop := ∃ fp', StF w p t fp' ∧ Went fp fp' w0 w
theorem TM.refl {w : World} {fp : Nat → Prop} {p : Nat} {t : ST} (h : StF w p t fp) : TM w w fp p t := ⟨fp, h, Went.refl _ _⟩
theorem TM.later {w0 w w' : World} {fp : Nat → Prop} {p : Nat} {t : ST} (h : TM w0 w fp p t) (hb : Below w.heap.size w w') : TM w0 w' fp p t := by
  obtain ⟨fp', h1, h2⟩ := h
  exact ⟨fp', h1.below hb, h2.later hb⟩
theorem TM.trans {w0 w w' : World} {fp : Nat → Prop} {p : Nat} {t t' : ST} (m : TM w0 w fp p t) (h : ∀ fp', StF w p t fp' → TM w w' fp' p t') : TM w0 w' fp p t' := by
  obtain ⟨fp', h1, h2⟩ := m
  obtain ⟨fp2, h3, h4⟩ := h fp' h1
  exact ⟨fp2, h3, h2.trans h4⟩
def one1 (o : Bool) (n : Nat) : Option H1 → List (Bool × Nat × H1)
  | some h => [(o, n, h)]
  | none => []
/-- The streams, by rising ids. -/
def inter (oa ob : Bool) (A B : List H1) : Nat → List (Bool × Nat × H1)
  | 0 => []
  | n + 1 => inter oa ob A B n ++ one1 oa n A[n]? ++ one1 ob n B[n]?
def ST.all (t : ST) : List (Bool × Nat × H1) := if t.rest = 0 then inter true false t.own t.others (max t.own.length t.others.length) else inter false true t.others t.own (max t.own.length t.others.length)
end Go.Proofs.YtnneoeimgbemfaaGreat

/- DERIVED. streams: side, find. -/
namespace Go.Proofs.YtnneoeimgbemfaaGreat
open Go.RowKit

def ST.sideO (t : ST) (id : Nat) : Option Bool := if id % 4 = t.rest then some true else if id % 4 = 1 - t.rest then some false else none
def ST.hs (t : ST) (o : Bool) : List H1 := if o then t.own else t.others
def ST.find (t : ST) (id : Nat) : Option (Bool × Nat × H1) := match t.sideO id with
  | none => none
  | some o => (t.hs o)[id / 4]?.map (fun h => (o, id / 4, h))
def sideV (a b : Nat) : Option Bool → Value
  | none => .pointer none
  | some o => .pointer (some ⟨if o then a else b, 0, none⟩)
theorem StAt.sde {w : World} {p a b : Nat} {t : ST} {lab : Nat → Lab} (h : StAt w p t lab a b) (o : Bool) : SdeAt w lab o (if o then a else b) (if o then t.rest else 1 - t.rest) (t.hs o) := by
  cases o
  · exact h.others
  · exact h.own
theorem StAt.cell {w : World} {p a b : Nat} {t : ST} {lab : Nat → Lab} (h : StAt w p t lab a b) (j : Nat) : w.cell? ⟨p, j, none⟩ = (tcells t a b)[j]? := cell_at h.blk j
set_option maxRecDepth 100000 in
set_option maxHeartbeats 1000000 in
theorem tside_q (p : Nat) (t : ST) (lab : Nat → Lab) (a b id : Nat) (w : World) (h : StAt w p t lab a b) (hid : id < 18446744073709551616) :
    Calls Tryz.prog 39 #[.pointer (some ⟨p, 0, none⟩), .int .u64 id] w fun e w' => e = .returned (sideV a b (t.sideO id)) ∧ ∃ n, w' = w.drewN n := by
  have c24 : w.cell? ⟨p, 24, none⟩ = some (.pointer (some ⟨a, 0, none⟩)) := (h.cell 24).trans rfl
  have c25 : w.cell? ⟨p, 25, none⟩ = some (.pointer (some ⟨b, 0, none⟩)) := (h.cell 25).trans rfl
  obtain ⟨va, _, _, ha, _⟩ := h.own
  obtain ⟨vb, _, _, hb, _⟩ := h.others
  have a0 : w.cell? ⟨a, 0, none⟩ = some (.int .u64 t.rest) := (cell_at ha 0).trans rfl
  have b0 : w.cell? ⟨b, 0, none⟩ = some (.int .u64 (1 - t.rest : Nat)) := (cell_at hb 0).trans rfl
  have hrest := h.ok.rest
  obtain ⟨m, hm, hm2, hm3⟩ : ∃ m : Nat, (id : Int).tmod 4 = (m : Int) ∧ id % 4 = m ∧ m < 4 := ⟨id % 4, by rw [Int.tmod_eq_emod_of_nonneg (by omega)]; omega, rfl, Nat.mod_lt _ (by omega)⟩
  unfold ST.sideO
  rw [hm2]
  generalize t.rest = rs at *
  clear h ha hb hm2
  rcases hrest with rfl | rfl
  · rcases (by omega : m = 0 ∨ m = 1 ∨ m = 2 ∨ m = 3) with rfl | rfl | rfl | rfl
    all_goals
      go_enter Tryz.func39, Tryz.ntmps39
      go_wp2_with fail
      go_ret
      exact ⟨rfl, 0, rfl⟩
  · rcases (by omega : m = 0 ∨ m = 1 ∨ m = 2 ∨ m = 3) with rfl | rfl | rfl | rfl
    all_goals
      go_enter Tryz.func39, Tryz.ntmps39
      go_wp2_with fail
      go_ret
      exact ⟨rfl, 0, rfl⟩
/-- Where a side's row has a stream. -/
def Yat (w : World) (x i y : Nat) : Prop := ∃ g n cv, w.cell? ⟨x, 1, none⟩ = some (.slice (some ⟨g, 0, none⟩) n cv) ∧ w.cell? ⟨g, i, none⟩ = some (.pointer (some ⟨y, 0, none⟩))
/-- What find tells. -/
def FindV (w : World) (lab : Nat → Lab) (t : ST) (a b id : Nat) (v : Value) : Prop := (t.find id = none ∧ v = .pointer none) ∨ ∃ o i h y, t.find id = some (o, i, h) ∧ Yat w (if o then a else b) i y ∧ StrAt w lab o i y h ∧ v = .pointer (some ⟨y, 0, none⟩)
set_option maxRecDepth 100000 in
set_option maxHeartbeats 1000000 in
theorem tfind_q (p : Nat) (t : ST) (lab : Nat → Lab) (a b id : Nat) (w : World) (h : StAt w p t lab a b) (hid : id < 18446744073709551616) :
    Calls Tryz.prog 21 #[.pointer (some ⟨p, 0, none⟩), .int .u64 id] w fun e w' => ∃ v, e = .returned v ∧ FindV w lab t a b id v ∧ ∃ n, w' = w.drewN n := by
  have H := Lib.hid h
  cases ho : t.sideO id with
  | none =>
    have HF := Lib.hid (show FindV w lab t a b id (.pointer none) from .inl ⟨by unfold ST.find; rw [ho], rfl⟩)
    have HO := Lib.hid ho
    clear h ho
    go_enter Tryz.func21, Tryz.ntmps21
    go_wp2_with fail
    refine (tside_q p t lab a b id _ (by exact H.out) hid).mono ?_
    rw [HO.out, sideV]
    rintro e w1 ⟨rfl, n1, rfl⟩
    go_wp2_with fail
    go_ret
    exact ⟨_, rfl, HF.out, _, rfl⟩
  | some o =>
    have hs := h.sde o
    obtain ⟨x, hx⟩ : ∃ x, (if o then a else b) = x := ⟨_, rfl⟩
    have HO := Lib.hid (And.intro ho hx)
    rw [hx] at hs
    obtain ⟨v, og, ys, h1, h2, h3, h4, h5, h6⟩ := hs
    obtain ⟨ov, cv, rfl, hc1, hc2⟩ := h3.shape
    have hlen : (t.hs o).length ≤ 1000 := by
      cases o
      · exact h.ok.others
      · exact h.ok.own
    obtain ⟨n, hn⟩ : ∃ n, (t.hs o).length = n := ⟨_, rfl⟩
    rw [h5, hn] at h1 h3 hc1
    rw [hn] at hlen
    have x1 : w.cell? ⟨x, 1, none⟩ = some (.slice ov n cv) := (cell_at h1 1).trans rfl
    obtain ⟨q, hq, hq2, hq3⟩ : ∃ q : Nat, (id : Int).tdiv 4 = (q : Int) ∧ id / 4 = q ∧ q < 18446744073709551616 := ⟨id / 4, by rw [Int.tdiv_eq_ediv_of_nonneg (by omega)]; omega, rfl, by omega⟩
    have hwn : IntKind.u64.wrap (n : Int) = n := IntWalk.u64_in _ (by omega)
    by_cases hlt : q < n
    · obtain ⟨hh, hhi⟩ : ∃ hh, (t.hs o)[q]? = some hh := ⟨_, List.getElem?_eq_getElem (by omega)⟩
      obtain ⟨y, hy, hst⟩ := h6 q hh hhi
      obtain ⟨g, rfl, rfl, _, hg1, _⟩ := h3.el1 (f := fun y : Option Nat => Value.pointer (y.map fun y => ⟨y, 0, none⟩)) (fun _ => rfl) hy
      have hg1 : w.cell? ⟨g, q, none⟩ = some (.pointer (some ⟨y, 0, none⟩)) := hg1
      have HF := Lib.hid (show FindV w lab t a b id (.pointer (some ⟨y, 0, none⟩)) from .inr ⟨o, q, hh, y, by unfold ST.find; rw [ho]; show ((t.hs o)[id / 4]?).map _ = _; rw [hq2, hhi]; rfl, by rw [hx]; exact ⟨g, n, cv, x1, hg1⟩, hst, rfl⟩)
      clear h h1 h2 h3 h4 h5 h6 hy hst hhi hn ho hx hq2
      go_enter Tryz.func21, Tryz.ntmps21
      go_wp2_with fail
      refine (tside_q p t lab a b id _ (by exact H.out) hid).mono ?_
      rw [HO.out.1, sideV, HO.out.2]
      rintro e w1 ⟨rfl, n1, rfl⟩
      go_wp2_with fail
      go_ret
      exact ⟨_, rfl, HF.out, _, rfl⟩
    · have HF := Lib.hid (show FindV w lab t a b id (.pointer none) from .inl ⟨by unfold ST.find; rw [ho]; show ((t.hs o)[id / 4]?).map _ = _; rw [hq2, List.getElem?_eq_none (by omega)]; rfl, rfl⟩)
      clear h h1 h2 h3 h4 h5 h6 hn ho hx hq2
      go_enter Tryz.func21, Tryz.ntmps21
      go_wp2_with fail
      refine (tside_q p t lab a b id _ (by exact H.out) hid).mono ?_
      rw [HO.out.1, sideV, HO.out.2]
      rintro e w1 ⟨rfl, n1, rfl⟩
      go_wp2_with fail
      go_ret
      exact ⟨_, rfl, HF.out, _, rfl⟩
end Go.Proofs.YtnneoeimgbemfaaGreat
