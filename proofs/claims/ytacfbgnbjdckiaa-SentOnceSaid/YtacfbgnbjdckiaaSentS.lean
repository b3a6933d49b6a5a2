/- DERIVED. The ledger of packets: plain; in memory. -/
import Derived.Test.YtacfbgnbjdckiaaVwa
namespace Go.Proofs.Ytacfbgnbjdckiaa
open Go.RowKit

structure Pk where
  n : Nat
  t : Int
  z : Int
  a : Bool
  vf : Value
def encP (p : Pk) : List Value := [.int .u64 p.n, .int .i64 p.t, .int .i64 p.z, .bool p.a, p.vf]
theorem encP_len (p : Pk) : (encP p).length = 5 := rfl
/-- A packet that has no frames; its numbers may be. -/
structure PkOk (p : Pk) : Prop where
  n : p.n ≤ 4611686018427387903
  t : -9223372036854775808 ≤ p.t ∧ p.t ≤ 9223372036854775807
  z : 0 ≤ p.z ∧ p.z ≤ 512
  vf : p.vf = .slice none 0 0
def encQ (p : Pk) : List Value := [.int .u64 p.n, .int .i64 p.t, .int .i64 p.z, .bool p.a, .slice none 0 0]
theorem encQ_len (p : Pk) : (encQ p).length = 5 := rfl
theorem encQ_one (p : Pk) : ∀ v ∈ encQ p, v.oneCell' = true := by
  intro v hv
  simp [encQ] at hv
  rcases hv with rfl | rfl | rfl | rfl | rfl <;> rfl
theorem infoP : (Try.prog.info? 32).map (fun i => (i.zero, i.size, i.bytes)) = some (some (.agg #[.int .u64 0, .int .i64 0, .int .i64 0, .bool false, .slice none 0 0]), 5, 56) := by kernel_rfl
theorem zeroP : (Value.agg #[.int .u64 0, .int .i64 0, .int .i64 0, .bool false, .slice none 0 0]).cells.toList = encQ ⟨0, 0, 0, false, .slice none 0 0⟩ := rfl

/-- The ledger's plain state: packets without frames. -/
structure LS where
  L : List Pk
  nx : Nat
  ak : Nat
  has : Bool
def LS.zero : LS := ⟨[], 0, 0, false⟩
structure LS.Ok (s : LS) : Prop where
  len : s.L.length ≤ 64
  nx : s.nx ≤ 4611686018427387904
  ak : s.ak ≤ 4611686018427387904
  num : ∀ p ∈ s.L, p.n < s.nx
  z : ∀ p ∈ s.L, 0 ≤ p.z ∧ p.z ≤ 512
  t : ∀ p ∈ s.L, -9223372036854775808 ≤ p.t ∧ p.t ≤ 9223372036854775807
theorem LS.zero_ok : LS.zero.Ok := ⟨by simp [LS.zero], by simp [LS.zero], by simp [LS.zero], by simp [LS.zero], by simp [LS.zero], by simp [LS.zero]⟩
structure LedAt (w : World) (b : Nat) (s : LS) (v : Value) (og : Option Nat) : Prop where
  blk : w.heap[b]? = some (.cells #[v, .int .u64 s.nx, .int .u64 s.ak, .bool s.has] 61 (0, 0))
  row : SlG encQ 32 w v og s.L
  ok : s.Ok
def LAt (w : World) (b : Nat) (s : LS) (fp : Nat → Prop) : Prop := ∃ v og, LedAt w b s v og ∧ fp = fun j => j = b ∨ og = some j
theorem slg_apart {α : Type} {enc : α → List Value} {E T : TypeId} {w : World} {v : Value} {og : Option Nat} {xs : List α} (h : SlG enc E w v og xs) {b : Nat} {cs : Array Value} {z : Nat × Nat} (hb : w.heap[b]? = some (.cells cs T z)) (hT : E ≠ T) : og ≠ some b := by
  rintro rfl
  rcases h with ⟨_, _, h1⟩ | ⟨g, zs, h1, _, hr, _⟩
  · cases h1
  · cases h1
    unfold Row at hr
    rw [hb] at hr
    simp at hr
    exact hT hr.2.1.symm
theorem LedAt.apart {w : World} {b : Nat} {s : LS} {v : Value} {og : Option Nat} (h : LedAt w b s v og) : og ≠ some b := slg_apart h.row h.blk (by decide)
theorem LAt.keeps {F fp : Nat → Prop} {w w' : World} {b : Nat} {s : LS} (h : LAt w b s fp) (hu : Upd F w w') (hF : ∀ k, fp k → ¬ F k) : LAt w' b s fp := by
  obtain ⟨v, og, h, rfl⟩ := h
  exact ⟨v, og, ⟨hu.keeps h.blk (hF b (.inl rfl)), h.row.keeps hu (fun g hg => hF g (.inr hg)), h.ok⟩, rfl⟩
theorem LAt.lt {fp : Nat → Prop} {w : World} {b : Nat} {s : LS} (h : LAt w b s fp) : fp b ∧ ∀ k, fp k → k < w.heap.size := by
  obtain ⟨v, og, h, rfl⟩ := h
  refine ⟨.inl rfl, ?_⟩
  rintro k (rfl | hk)
  · exact heap_lt h.blk
  · exact h.row.lt k hk
theorem LAt.below {fp : Nat → Prop} {w w' : World} {b : Nat} {s : LS} (h : LAt w b s fp) (hb : Below w.heap.size w w') : LAt w' b s fp :=
  h.keeps (Upd.below hb) (fun k hk => by have := h.lt.2 k hk; omega)
theorem LAt.drewN {fp : Nat → Prop} {w : World} {b : Nat} {s : LS} (h : LAt w b s fp) (n : Nat) : LAt (w.drewN n) b s fp := h.below (below_drewN (Below.refl _ _) n)
theorem LAt.ok {fp : Nat → Prop} {w : World} {b : Nat} {s : LS} (h : LAt w b s fp) : s.Ok := by
  obtain ⟨v, og, h, rfl⟩ := h
  exact h.ok
theorem LAt.cells {fp : Nat → Prop} {w : World} {b : Nat} {s : LS} (h : LAt w b s fp) : w.cell? ⟨b, 1, none⟩ = some (.int .u64 s.nx) ∧ w.cell? ⟨b, 2, none⟩ = some (.int .u64 s.ak) ∧ w.cell? ⟨b, 3, none⟩ = some (.bool s.has) := by
  obtain ⟨v, og, h, _⟩ := h
  exact ⟨(cell_at h.blk 1).trans rfl, (cell_at h.blk 2).trans rfl, (cell_at h.blk 3).trans rfl⟩
/-- All of new blocks, from a beginning on. -/
def LMine (W w : World) (b : Nat) (s : LS) : Prop := ∃ fp, LAt w b s fp ∧ (∀ k, fp k → W.heap.size ≤ k) ∧ Below W.heap.size W w
theorem LMine.later {W w w' : World} {b : Nat} {s : LS} (h : LMine W w b s) (hb : Below w.heap.size w w') : LMine W w' b s := by
  obtain ⟨fp, h1, h2, h3⟩ := h
  exact ⟨fp, h1.below hb, h2, below_call h3 h3.size hb⟩
theorem LMine.below {W w : World} {b : Nat} {s : LS} (h : LMine W w b s) : Below W.heap.size W w := by
  obtain ⟨_, _, _, h3⟩ := h
  exact h3
theorem LMine.drewN {W w : World} {b : Nat} {s : LS} (h : LMine W w b s) (n : Nat) : LMine W (w.drewN n) b s := h.later (below_drewN (Below.refl _ _) n)
theorem LMine.alloc {W w : World} {b : Nat} {s : LS} (h : LMine W w b s) (o : Obj) : LMine W (w.alloc o) b s := h.later ((Below.refl _ _).alloc (Nat.le_refl _) _)
/-- What a call turns: the ledger is as s', its blocks are those of the call's beginning, or new. -/
def LM (w0 w : World) (fp : Nat → Prop) (b : Nat) (s : LS) : Prop := ∃ fp', LAt w b s fp' ∧ Upd fp w0 w ∧ ∀ g, fp' g → fp g ∨ w0.heap.size ≤ g
theorem lm_mine {W w w' : World} {b : Nat} {s' : LS} {fp : Nat → Prop} (hn : ∀ k, fp k → W.heap.size ≤ k) (hb : Below W.heap.size W w) (m : LM w w' fp b s') : LMine W w' b s' := by
  obtain ⟨fp', h1, h2, h3⟩ := m
  have hs := hb.size
  exact ⟨fp', h1, fun k hk => by
    rcases h3 k hk with q | q
    · exact hn k q
    · omega, Upd.belowOf hb h2 (fun k hk q => by have := hn k q; omega)⟩
theorem LM.later {w0 w w' : World} {fp : Nat → Prop} {b : Nat} {s : LS} (h : LM w0 w fp b s) (hb : Below w.heap.size w w') : LM w0 w' fp b s := by
  obtain ⟨fp', h1, h2, h3⟩ := h
  exact ⟨fp', h1.below hb, h2.trans (Upd.below hb) (fun _ _ q => q) (fun j hj q => by have := h2.size; omega), h3⟩
theorem LM.refl {w : World} {fp : Nat → Prop} {b : Nat} {s : LS} (h : LAt w b s fp) : LM w w fp b s := ⟨fp, h, Upd.refl _ _, fun _ q => .inl q⟩
end Go.Proofs.Ytacfbgnbjdckiaa
