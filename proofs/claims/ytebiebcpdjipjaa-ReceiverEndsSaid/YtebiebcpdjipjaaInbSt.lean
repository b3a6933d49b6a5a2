/- DERIVED. The program's buffer in memory, and the document's: each reads as one state. -/
import Derived.Test.YtebiebcpdjipjaaInbR
import Derived.Test.YtebiebcpdjipjaaView
import Derived.Test.YtebiebcpdjipjaaSet
namespace Go.Proofs.Ytebiebcpdjipjaa
open Go.RowKit

/-- What an object's blocks have become: of the old ones, or new. -/
structure Went (fp fp' : Nat → Prop) (w w' : World) : Prop where
  upd : Upd fp w w'
  new : ∀ g, fp' g → fp g ∨ w.heap.size ≤ g
theorem Went.refl (fp : Nat → Prop) (w : World) : Went fp fp w w := ⟨Upd.refl _ _, fun _ h => .inl h⟩
theorem Went.trans {f g h : Nat → Prop} {a b c : World} (x : Went f g a b) (y : Went g h b c) : Went f h a c :=
  ⟨x.upd.trans y.upd (fun _ _ h => h) (fun i hi hg => by
    rcases x.new i hg with h | h
    · exact h
    · omega), fun k hk => by
    rcases y.new k hk with h' | h'
    · exact x.new k h'
    · right
      have := x.upd.size
      omega⟩
theorem Went.drewN {f g : Nat → Prop} {a b : World} (x : Went f g a b) (n : Nat) : Went f g a (b.drewN n) := ⟨x.upd.drewN n, x.new⟩
theorem Went.later {f g : Nat → Prop} {a b c : World} (x : Went f g a b) (y : Below b.heap.size b c) : Went f g a c :=
  ⟨x.upd.trans (Upd.below y) (fun _ _ h => h) (fun i hi h => by have := x.upd.size; omega), x.new⟩
theorem Went.first {f g : Nat → Prop} {a b c : World} (y : Below a.heap.size a b) (x : Went f g b c) : Went f g a c :=
  ⟨(Upd.below y).trans x.upd (fun i hi h => by omega) (fun _ _ h => h), fun k hk => by
    rcases x.new k hk with h | h
    · exact .inl h
    · right
      have := y.size
      omega⟩
theorem Went.mono {f f2 g : Nat → Prop} {a b : World} (x : Went f g a b) (h : ∀ k, f k → f2 k) : Went f2 g a b :=
  ⟨x.upd.mono (fun k _ hk => h k hk), fun k hk => by
    rcases x.new k hk with h' | h'
    · exact .inl (h k h')
    · exact .inr h'⟩

/-- The program's buffer. -/
structure BufAt (w : World) (b : Nat) (s : IB) (c : Nat) (og : Option Nat) (xs : List Rg) (cs : Array Value) : Prop where
  blk : w.heap[b]? = some (.cells cs 84 (0, 0))
  size : cs.size = 2053
  c0 : cs[0]? = some (.int .u64 s.rd)
  c1 : cs[1]? = some (.int .u64 s.hi)
  c2 : cs[2]? = some (.int .u64 s.fin)
  c3 : cs[3]? = some (.bool s.kn)
  ring : ∀ j v, gt s.L j = some v → cs[4 + (s.rd + j) % 2048]? = some (.int .u8 v)
  c5 : cs[2052]? = some (.pointer (some ⟨c, 0, none⟩))
  came : SetAt w c 2048 og xs
  is : CameIs s xs
  ok : s.Ok
  ne : c ≠ b
  apart : og ≠ some b
def IbAt (w : World) (b : Nat) (s : IB) (fp : Nat → Prop) : Prop := ∃ c og xs cs, BufAt w b s c og xs cs ∧ fp = (fun j => j = b ∨ j = c ∨ og = some j)
theorem IbAt.keeps {F fp : Nat → Prop} {w w' : World} {b : Nat} {s : IB} (h : IbAt w b s fp) (hu : Upd F w w') (hF : ∀ k, fp k → ¬ F k) : IbAt w' b s fp := by
  obtain ⟨c, og, xs, cs, h, rfl⟩ := h
  exact ⟨c, og, xs, cs, ⟨hu.keeps h.blk (hF b (.inl rfl)), h.size, h.c0, h.c1, h.c2, h.c3, h.ring, h.c5, h.came.keeps hu (hF c (.inr (.inl rfl))) (fun g hg => hF g (.inr (.inr hg))), h.is, h.ok, h.ne, h.apart⟩, rfl⟩
theorem IbAt.lt {fp : Nat → Prop} {w : World} {b : Nat} {s : IB} (h : IbAt w b s fp) : fp b ∧ ∀ k, fp k → k < w.heap.size := by
  obtain ⟨c, og, xs, cs, h, rfl⟩ := h
  refine ⟨.inl rfl, ?_⟩
  obtain ⟨v, h1, h2, h3⟩ := h.came
  rintro k (rfl | rfl | hk)
  · exact heap_lt h.blk
  · exact heap_lt h1
  · exact h2.lt k hk
theorem IbAt.below {fp : Nat → Prop} {w w' : World} {b : Nat} {s : IB} (h : IbAt w b s fp) (hb : Below w.heap.size w w') : IbAt w' b s fp :=
  h.keeps (Upd.below hb) (fun k hk => by have := h.lt.2 k hk; omega)
theorem IbAt.drew {fp : Nat → Prop} {w : World} {b : Nat} {s : IB} (h : IbAt w b s fp) : IbAt w.drew b s fp := h.below (Below.refl _ _).drew
theorem IbAt.drewN {fp : Nat → Prop} {w : World} {b : Nat} {s : IB} (h : IbAt w b s fp) (n : Nat) : IbAt (w.drewN n) b s fp := h.below (below_drewN (Below.refl _ _) n)
theorem IbAt.ok {fp : Nat → Prop} {w : World} {b : Nat} {s : IB} (h : IbAt w b s fp) : s.Ok := by
  obtain ⟨c, og, xs, cs, h, rfl⟩ := h
  exact h.ok

/-- The document's buffer. -/
structure RefB (w : World) (m : Nat) (s : IB) (vB vC : Value) (ob oc : Option Nat) : Prop where
  blk : w.heap[m]? = some (.cells #[.int .u64 s.rd, .int .u64 s.hi, .int .u64 s.fin, .bool s.kn, vB, vC] 71 (0, 0))
  b : SlG encB 5 w vB ob (bytesOf s.L)
  c : SlG encL 4 w vC oc (s.L.map Option.isSome)
  ok : s.Ok
def RbAt (w : World) (m : Nat) (s : IB) (fp : Nat → Prop) : Prop := ∃ vB vC ob oc, RefB w m s vB vC ob oc ∧ fp = (fun j => j = m ∨ ob = some j ∨ oc = some j)
theorem RbAt.keeps {F fp : Nat → Prop} {w w' : World} {m : Nat} {s : IB} (h : RbAt w m s fp) (hu : Upd F w w') (hF : ∀ k, fp k → ¬ F k) : RbAt w' m s fp := by
  obtain ⟨vB, vC, ob, oc, h, rfl⟩ := h
  exact ⟨vB, vC, ob, oc, ⟨hu.keeps h.blk (hF m (.inl rfl)), h.b.keeps hu (fun g hg => hF g (.inr (.inl hg))), h.c.keeps hu (fun g hg => hF g (.inr (.inr hg))), h.ok⟩, rfl⟩
theorem RbAt.lt {fp : Nat → Prop} {w : World} {m : Nat} {s : IB} (h : RbAt w m s fp) : fp m ∧ ∀ k, fp k → k < w.heap.size := by
  obtain ⟨vB, vC, ob, oc, h, rfl⟩ := h
  refine ⟨.inl rfl, ?_⟩
  rintro k (rfl | hk | hk)
  · exact heap_lt h.blk
  · exact h.b.lt k hk
  · exact h.c.lt k hk
theorem RbAt.ok {fp : Nat → Prop} {w : World} {m : Nat} {s : IB} (h : RbAt w m s fp) : s.Ok := by
  obtain ⟨vB, vC, ob, oc, h, rfl⟩ := h
  exact h.ok
theorem RbAt.below {fp : Nat → Prop} {w w' : World} {m : Nat} {s : IB} (h : RbAt w m s fp) (hb : Below w.heap.size w w') : RbAt w' m s fp :=
  h.keeps (Upd.below hb) (fun k hk => by have := h.lt.2 k hk; omega)
theorem RbAt.drewN {fp : Nat → Prop} {w : World} {m : Nat} {s : IB} (h : RbAt w m s fp) (n : Nat) : RbAt (w.drewN n) m s fp := h.below (below_drewN (Below.refl _ _) n)
end Go.Proofs.Ytebiebcpdjipjaa
