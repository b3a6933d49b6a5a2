/- DERIVED. The program's buffer of bytes that go: its plain state; in memory. -/
import Derived.Test.YtkebjfaphmamjaaSlO
import Derived.Test.YtkebjfaphmamjaaVwa
import Derived.Test.YtkebjfaphmamjaaSet
namespace Go.Proofs.Ytkebjfaphmamjaa
open Go.RowKit

/-- The state: bytes written; the base; how many went; acknowledged ranges, lost ranges; the end. -/
structure OS where
  B : List Nat
  base : Nat
  sent : Nat
  xs : List Rg
  ys : List Rg
  fi : Bool
  es : Bool
  ea : Bool
  el : Bool
def OS.zero : OS := ⟨[], 0, 0, [], [], false, false, false, false⟩
structure OS.Ok (s : OS) : Prop where
  len : s.B.length ≤ 1099511627776
  base : s.base ≤ s.B.length
  sent : s.sent ≤ s.B.length
  nx : Norm s.xs
  ny : Norm s.ys
  lx : s.xs.length ≤ 100000
  ly : s.ys.length ≤ 100000
  bys : Bys s.B
theorem OS.zero_ok : OS.zero.Ok := ⟨by simp [OS.zero], by simp [OS.zero], by simp [OS.zero], ⟨by simp [OS.zero], by simp [OS.zero]⟩, ⟨by simp [OS.zero], by simp [OS.zero]⟩, by simp [OS.zero], by simp [OS.zero], by unfold Bys; simp [OS.zero]⟩
def many : Int := 1048576

/-- What an object's blocks have become: of the old ones, or new. -/
structure Went (fp fp' : Nat → Prop) (w w' : World) : Prop where
  upd : Upd fp w w'
  new : ∀ g, fp' g → fp g ∨ w.heap.size ≤ g
theorem Went.refl (fp : Nat → Prop) (w : World) : Went fp fp w w := ⟨Upd.refl _ _, fun _ h => .inl h⟩
theorem Went.trans {f g h : Nat → Prop} {a b c : World} (x : Went f g a b) (y : Went g h b c) : Went f h a c :=
  ⟨x.upd.trans y.upd (fun _ _ h => h) (fun i hi hg => by
    rcases x.new i hg with h | h
    · exact h
    · omega), fun k hk => by
    rcases y.new k hk with h' | h'
    · exact x.new k h'
    · right
      have := x.upd.size
      omega⟩
theorem Went.later {f g : Nat → Prop} {a b c : World} (x : Went f g a b) (y : Below b.heap.size b c) : Went f g a c :=
  ⟨x.upd.trans (Upd.below y) (fun _ _ h => h) (fun i hi h => by have := x.upd.size; omega), x.new⟩
theorem Went.first {f g : Nat → Prop} {a b c : World} (y : Below a.heap.size a b) (x : Went f g b c) : Went f g a c :=
  ⟨(Upd.below y).trans x.upd (fun i hi h => by omega) (fun _ _ h => h), fun k hk => by
    rcases x.new k hk with h | h
    · exact .inl h
    · right
      have := y.size
      omega⟩

/-- The buffer in memory: its own block b, the sets c and d, their rows, the bytes' row. -/
structure OutAt (w : World) (b : Nat) (s : OS) (vb : Value) (ob : Option Nat) (c : Nat) (oc : Option Nat) (d : Nat) (od : Option Nat) : Prop where
  blk : w.heap[b]? = some (.cells #[vb, .int .u64 s.base, .int .u64 s.B.length, .int .u64 s.sent, .pointer (some ⟨c, 0, none⟩), .pointer (some ⟨d, 0, none⟩), .bool s.fi, .bool s.es, .bool s.ea, .bool s.el] 51 (0, 0))
  row : SlO encB 1 5 w vb ob (s.B.drop s.base)
  sx : SetAt w c many oc s.xs
  sy : SetAt w d many od s.ys
  ok : s.Ok
  cd : c ≠ d ∧ oc ≠ some d ∧ od ≠ some c ∧ (∀ g, oc = some g → od ≠ some g)
  bcd : b ≠ c ∧ b ≠ d ∧ oc ≠ some b ∧ od ≠ some b
  obs : ob ≠ some b ∧ ob ≠ some c ∧ ob ≠ some d ∧ (∀ g, ob = some g → oc ≠ some g ∧ od ≠ some g)
def OFp (b c d : Nat) (ob oc od : Option Nat) (j : Nat) : Prop := j = b ∨ j = c ∨ j = d ∨ ob = some j ∨ oc = some j ∨ od = some j
def OAt (w : World) (b : Nat) (s : OS) (fp : Nat → Prop) : Prop := ∃ vb ob c oc d od, OutAt w b s vb ob c oc d od ∧ fp = OFp b c d ob oc od
theorem OutAt.keeps {F : Nat → Prop} {w w' : World} {b : Nat} {s : OS} {vb : Value} {ob : Option Nat} {c : Nat} {oc : Option Nat} {d : Nat} {od : Option Nat} (h : OutAt w b s vb ob c oc d od) (hu : Upd F w w') (hF : ∀ k, OFp b c d ob oc od k → ¬ F k) : OutAt w' b s vb ob c oc d od :=
  ⟨hu.keeps h.blk (hF b (.inl rfl)), h.row.keeps hu (fun g hg => hF g (.inr (.inr (.inr (.inl hg))))), h.sx.keeps hu (hF c (.inr (.inl rfl))) (fun g hg => hF g (.inr (.inr (.inr (.inr (.inl hg)))))),
    h.sy.keeps hu (hF d (.inr (.inr (.inl rfl)))) (fun g hg => hF g (.inr (.inr (.inr (.inr (.inr hg)))))), h.ok, h.cd, h.bcd, h.obs⟩
theorem SetAt.lt {w : World} {b : Nat} {m : Int} {og : Option Nat} {xs : List Rg} (h : SetAt w b m og xs) : b < w.heap.size ∧ ∀ g, og = some g → g < w.heap.size := by
  obtain ⟨u, h1, h2, _⟩ := h
  exact ⟨heap_lt h1, h2.lt⟩
theorem OutAt.lt {w : World} {b : Nat} {s : OS} {vb : Value} {ob : Option Nat} {c : Nat} {oc : Option Nat} {d : Nat} {od : Option Nat} (h : OutAt w b s vb ob c oc d od) : ∀ k, OFp b c d ob oc od k → k < w.heap.size := by
  rintro k (rfl | rfl | rfl | q | q | q)
  · exact heap_lt h.blk
  · exact h.sx.lt.1
  · exact h.sy.lt.1
  · exact h.row.lt k q
  · exact h.sx.lt.2 k q
  · exact h.sy.lt.2 k q
theorem OutAt.below {w w' : World} {b : Nat} {s : OS} {vb : Value} {ob : Option Nat} {c : Nat} {oc : Option Nat} {d : Nat} {od : Option Nat} (h : OutAt w b s vb ob c oc d od) (hb : Below w.heap.size w w') : OutAt w' b s vb ob c oc d od :=
  h.keeps (Upd.below hb) (fun k hk => by have := h.lt k hk; omega)
theorem OAt.keeps {F fp : Nat → Prop} {w w' : World} {b : Nat} {s : OS} (h : OAt w b s fp) (hu : Upd F w w') (hF : ∀ k, fp k → ¬ F k) : OAt w' b s fp := by
  obtain ⟨vb, ob, c, oc, d, od, h, rfl⟩ := h
  exact ⟨vb, ob, c, oc, d, od, h.keeps hu hF, rfl⟩
theorem OAt.lt {fp : Nat → Prop} {w : World} {b : Nat} {s : OS} (h : OAt w b s fp) : fp b ∧ ∀ k, fp k → k < w.heap.size := by
  obtain ⟨vb, ob, c, oc, d, od, h, rfl⟩ := h
  exact ⟨.inl rfl, h.lt⟩
theorem OAt.below {fp : Nat → Prop} {w w' : World} {b : Nat} {s : OS} (h : OAt w b s fp) (hb : Below w.heap.size w w') : OAt w' b s fp :=
  h.keeps (Upd.below hb) (fun k hk => by have := h.lt.2 k hk; omega)
theorem OAt.ok {fp : Nat → Prop} {w : World} {b : Nat} {s : OS} (h : OAt w b s fp) : s.Ok := by
  obtain ⟨vb, ob, c, oc, d, od, h, rfl⟩ := h
  exact h.ok
/-- The numbers and flags, as cells. -/
theorem OAt.cells {fp : Nat → Prop} {w : World} {b : Nat} {s : OS} (h : OAt w b s fp) :
    w.cell? ⟨b, 1, none⟩ = some (.int .u64 s.base) ∧ w.cell? ⟨b, 2, none⟩ = some (.int .u64 s.B.length) ∧ w.cell? ⟨b, 3, none⟩ = some (.int .u64 s.sent) ∧ w.cell? ⟨b, 6, none⟩ = some (.bool s.fi) ∧
      w.cell? ⟨b, 7, none⟩ = some (.bool s.es) ∧ w.cell? ⟨b, 8, none⟩ = some (.bool s.ea) ∧ w.cell? ⟨b, 9, none⟩ = some (.bool s.el) := by
  obtain ⟨vb, ob, c, oc, d, od, h, _⟩ := h
  exact ⟨(cell_at h.blk 1).trans rfl, (cell_at h.blk 2).trans rfl, (cell_at h.blk 3).trans rfl, (cell_at h.blk 6).trans rfl, (cell_at h.blk 7).trans rfl, (cell_at h.blk 8).trans rfl, (cell_at h.blk 9).trans rfl⟩

/-- Some bytes of its own from an offset on that were known to be sent. -/
def OS.kn (s : OS) (off : Nat) (n : Int) : Nat × Nat := (min off s.sent, min s.sent (min off s.sent + n.toNat))
def atOf (xs : List Rg) (len : Nat) : Nat := if (gapL xs 0 len).2 then (gapL xs 0 len).1.1 else len
def OS.ackX (s : OS) (r : Nat × Nat) : List Rg := if r.1 < r.2 then addL many s.xs r.1 r.2 else s.xs
def OS.ack (s : OS) (off : Nat) (n : Int) (f : Bool) : OS :=
  { s with xs := s.ackX (s.kn off n), ys := trimL many (cutRaw (s.kn off n).1 (s.kn off n).2 s.ys), ea := s.ea || (f && s.es), base := atOf (s.ackX (s.kn off n)) s.B.length }
def OS.ende (s : OS) : Bool := s.fi && !s.ea && (!s.es || s.el)
def OS.part (s : OS) (limit : Nat) : Nat × Nat := match s.ys with | r :: _ => r | [] => (s.sent, max s.sent (min limit s.B.length))
/-- A piece goes. -/
def OS.goes (s : OS) (f t : Nat) : OS :=
  { s with ys := trimL many (cutRaw f t s.ys), sent := max s.sent t, es := s.es || (decide (t = s.B.length) && s.ende), el := s.el && !(decide (t = s.B.length) && s.ende) }
def OS.room (s : OS) : Nat := if s.fi then 0 else 2048 - (s.B.length - s.base)
def OS.write (s : OS) (d : List Nat) : OS := { s with B := s.B ++ d.take (min d.length s.room) }
end Go.Proofs.Ytkebjfaphmamjaa
