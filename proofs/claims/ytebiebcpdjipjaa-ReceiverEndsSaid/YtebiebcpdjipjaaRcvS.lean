/- DERIVED. Frames as values; the receiver: plain, in memory. -/
import Derived.Test.YtebiebcpdjipjaaInbTake
import Derived.Test.YtebiebcpdjipjaaKCut
import Derived.Test.YtebiebcpdjipjaaStr
namespace Go.Proofs.Ytebiebcpdjipjaa
open Go.RowKit

structure Fr where
  kd : Int
  sid : Nat
  off : Nat
  vd : Value
  fin : Bool
  lim : Nat
  code : Nat
  fnl : Nat
  seq : Nat
  dly : Nat
  vr : Value
  c0 : Nat
  c1 : Nat
  c2 : Nat
  c3 : Nat
  c4 : Nat
  c5 : Nat
  c6 : Nat
  c7 : Nat
def encF (f : Fr) : List Value := [.int .i64 f.kd, .int .u64 f.sid, .int .u64 f.off, f.vd, .bool f.fin, .int .u64 f.lim, .int .u64 f.code, .int .u64 f.fnl, .int .u64 f.seq, .int .u64 f.dly, f.vr,
  .int .u8 f.c0, .int .u8 f.c1, .int .u8 f.c2, .int .u8 f.c3, .int .u8 f.c4, .int .u8 f.c5, .int .u8 f.c6, .int .u8 f.c7]
theorem encF_len (f : Fr) : (encF f).length = 19 := rfl
structure FrOk (f : Fr) : Prop where
  kd : -9223372036854775808 ≤ f.kd ∧ f.kd ≤ 9223372036854775807
  sid : f.sid < 18446744073709551616
  off : f.off < 18446744073709551616
  lim : f.lim < 18446744073709551616
  code : f.code < 18446744073709551616
  fnl : f.fnl < 18446744073709551616
/-- A Stream's Stop frame, or the zero one. -/
def stopF (id : Nat) : Option Nat → Fr
  | none => ⟨0, 0, 0, .slice none 0 0, false, 0, 0, 0, 0, 0, .slice none 0 0, 0, 0, 0, 0, 0, 0, 0, 0⟩
  | some c => ⟨5, id, 0, .slice none 0 0, false, 0, c, 0, 0, 0, .slice none 0 0, 0, 0, 0, 0, 0, 0, 0, 0⟩
structure RS where
  id : Nat
  win : Nat
  st : Nat
  lim : Nat
  ib : IB
  code : Nat
  fnl : Nat
  sf : Option Nat
  sd : Bool
  so : Bool
  ag : Bool
def RS.new (id win : Nat) : RS := ⟨id, min win 2048, 1, min win 2048, IB.zero, 0, 0, none, false, false, false⟩
def RS.high (s : RS) : Nat := if 5 ≤ s.st then s.fnl else s.ib.hi
def RS.taken (s : RS) : Nat := if 5 ≤ s.st then s.fnl else s.ib.rd
def RS.szn (s : RS) : Nat := if 5 ≤ s.st then s.fnl else s.ib.fin
def RS.szd (s : RS) : Bool := if 5 ≤ s.st then true else s.ib.kn
def endOf (f : Fr) (n : Nat) : Nat := if f.kd = 4 then f.fnl else min f.off 4611686018427387903 + n
def lastOf (f : Fr) : Bool := decide (f.kd = 4) || f.fin
def RS.may (s : RS) (f : Fr) (n : Nat) : Nat :=
  if f.sid ≠ s.id ∨ (f.kd ≠ 8 ∧ f.kd ≠ 4) then 1
  else if s.lim < endOf f n then 23
  else if f.kd = 8 ∧ s.st < 5 ∧ 512 < n then 1
  else if (s.szd = true ∧ (s.szn < endOf f n ∨ (lastOf f = true ∧ endOf f n ≠ s.szn))) ∨ (lastOf f = true ∧ endOf f n < s.high) then 30
  else 0
/-- Behind a Stream frame's bytes: where it is. -/
def nextSt (st : Nat) (ib : IB) : Nat :=
  let a := if ib.kn = true ∧ st = 1 then 2 else st
  if a = 2 ∧ ib.whole = true then 3 else a
def RS.onErr (s : RS) (f : Fr) (n : Nat) : Nat :=
  if s.may f n ≠ 0 then s.may f n
  else if 5 ≤ s.st then 0
  else if f.kd = 4 then 0
  else s.ib.err f.off n f.fin
def RS.on (s : RS) (f : Fr) (d : List Nat) : RS :=
  if s.may f d.length ≠ 0 then s
  else if 5 ≤ s.st then s
  else if f.kd = 4 then (if s.st ≤ 2 then { s with st := 5, code := f.code, fnl := f.fnl } else s)
  else if s.ib.err f.off d.length f.fin ≠ 0 then s
  else { s with ib := s.ib.add f.off d f.fin, st := nextSt s.st (s.ib.add f.off d f.fin) }
structure RS.Ok (s : RS) : Prop where
  id : s.id < 18446744073709551616
  win : s.win ≤ 2048
  st : 1 ≤ s.st ∧ s.st ≤ 6
  lim : s.lim ≤ 1099511640000
  code : s.code < 18446744073709551616
  fnl : s.fnl ≤ 1099511640000
def rcells (s : RS) (b : Nat) (f : Fr) : Array Value := #[.int .u64 s.id, .int .u64 s.win, .int .i64 s.st, .int .u64 s.lim, .pointer (some ⟨b, 0, none⟩), .int .u64 s.code, .int .u64 s.fnl,
  .int .i64 f.kd, .int .u64 f.sid, .int .u64 f.off, f.vd, .bool f.fin, .int .u64 f.lim, .int .u64 f.code, .int .u64 f.fnl, .int .u64 f.seq, .int .u64 f.dly, f.vr,
  .int .u8 f.c0, .int .u8 f.c1, .int .u8 f.c2, .int .u8 f.c3, .int .u8 f.c4, .int .u8 f.c5, .int .u8 f.c6, .int .u8 f.c7, .bool s.sd, .bool s.so, .bool s.ag]
structure RAt0 (w : World) (r : Nat) (s : RS) (b : Nat) (fb : Nat → Prop) : Prop where
  blk : w.heap[r]? = some (.cells (rcells s b (stopF s.id s.sf)) 63 (0, 0))
  buf : IbAt w b s.ib fb
  ne : ¬ fb r
  ok : s.Ok
def RAt (w : World) (r : Nat) (s : RS) (fp : Nat → Prop) : Prop := ∃ b fb, RAt0 w r s b fb ∧ fp = fun j => j = r ∨ fb j
theorem RAt.keeps {F fp : Nat → Prop} {w w' : World} {r : Nat} {s : RS} (h : RAt w r s fp) (hu : Upd F w w') (hF : ∀ k, fp k → ¬ F k) : RAt w' r s fp := by
  obtain ⟨b, fb, h, rfl⟩ := h
  exact ⟨b, fb, ⟨hu.keeps h.blk (hF r (.inl rfl)), h.buf.keeps hu (fun k hk => hF k (.inr hk)), h.ne, h.ok⟩, rfl⟩
theorem RAt.lt {fp : Nat → Prop} {w : World} {r : Nat} {s : RS} (h : RAt w r s fp) : fp r ∧ ∀ k, fp k → k < w.heap.size := by
  obtain ⟨b, fb, h, rfl⟩ := h
  refine ⟨.inl rfl, ?_⟩
  rintro k (rfl | hk)
  · exact heap_lt h.blk
  · exact h.buf.lt.2 k hk
theorem RAt.below {fp : Nat → Prop} {w w' : World} {r : Nat} {s : RS} (h : RAt w r s fp) (hb : Below w.heap.size w w') : RAt w' r s fp :=
  h.keeps (Upd.below hb) (fun k hk => by have := h.lt.2 k hk; omega)
theorem RAt.drewN {fp : Nat → Prop} {w : World} {r : Nat} {s : RS} (h : RAt w r s fp) (n : Nat) : RAt (w.drewN n) r s fp := h.below (below_drewN (Below.refl _ _) n)
theorem RAt.ok {fp : Nat → Prop} {w : World} {r : Nat} {s : RS} (h : RAt w r s fp) : s.Ok := by
  obtain ⟨b, fb, h, _⟩ := h
  exact h.ok
theorem RAt.cells {fp : Nat → Prop} {w : World} {r : Nat} {s : RS} (h : RAt w r s fp) : w.cell? ⟨r, 0, none⟩ = some (.int .u64 s.id) ∧ w.cell? ⟨r, 1, none⟩ = some (.int .u64 s.win) ∧ w.cell? ⟨r, 2, none⟩ = some (.int .i64 s.st) ∧ w.cell? ⟨r, 3, none⟩ = some (.int .u64 s.lim) ∧
    w.cell? ⟨r, 5, none⟩ = some (.int .u64 s.code) ∧ w.cell? ⟨r, 6, none⟩ = some (.int .u64 s.fnl) := by
  obtain ⟨b, fb, h, _⟩ := h
  exact ⟨(cell_at h.blk 0).trans rfl, (cell_at h.blk 1).trans rfl, (cell_at h.blk 2).trans rfl, (cell_at h.blk 3).trans rfl, (cell_at h.blk 5).trans rfl, (cell_at h.blk 6).trans rfl⟩
/-- What a call turns: the receiver is as s', its blocks are those of the call's beginning, or new. -/
def RM (w0 w : World) (fp : Nat → Prop) (r : Nat) (s : RS) : Prop := ∃ fp', RAt w r s fp' ∧ Went fp fp' w0 w
theorem RM.refl {w : World} {fp : Nat → Prop} {r : Nat} {s : RS} (h : RAt w r s fp) : RM w w fp r s := ⟨fp, h, Went.refl _ _⟩
theorem RM.later {w0 w w' : World} {fp : Nat → Prop} {r : Nat} {s : RS} (h : RM w0 w fp r s) (hb : Below w.heap.size w w') : RM w0 w' fp r s := by
  obtain ⟨fp', h1, h2⟩ := h
  exact ⟨fp', h1.below hb, h2.later hb⟩
/-- All of new blocks, from a beginning on. -/
def RMine (W w : World) (r : Nat) (s : RS) : Prop := ∃ fp, RAt w r s fp ∧ (∀ k, fp k → W.heap.size ≤ k) ∧ Below W.heap.size W w
theorem RMine.below {W w : World} {r : Nat} {s : RS} (h : RMine W w r s) : Below W.heap.size W w := by
  obtain ⟨_, _, _, h⟩ := h
  exact h
theorem RMine.later {W w w' : World} {r : Nat} {s : RS} (h : RMine W w r s) (hb : Below w.heap.size w w') : RMine W w' r s := by
  obtain ⟨fp, h1, h2, h3⟩ := h
  exact ⟨fp, h1.below hb, h2, below_call h3 h3.size hb⟩
theorem RMine.drewN {W w : World} {r : Nat} {s : RS} (h : RMine W w r s) (n : Nat) : RMine W (w.drewN n) r s := h.later (below_drewN (Below.refl _ _) n)
theorem rm_mine {W w w' : World} {r : Nat} {s' : RS} {fp : Nat → Prop} (hn : ∀ k, fp k → W.heap.size ≤ k) (hb : Below W.heap.size W w) (m : RM w w' fp r s') : RMine W w' r s' := by
  obtain ⟨fp', h1, h2⟩ := m
  have hs := hb.size
  exact ⟨fp', h1, fun k hk => by
    rcases h2.new k hk with q | q
    · exact hn k q
    · omega, Upd.belowOf hb h2.upd (fun k hk q => by have := hn k q; omega)⟩
end Go.Proofs.Ytebiebcpdjipjaa
