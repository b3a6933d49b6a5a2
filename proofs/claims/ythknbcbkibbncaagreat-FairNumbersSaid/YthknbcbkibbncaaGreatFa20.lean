/- DERIVED. Functions taken whole, level upon level: slices.Replace; calls that were answered once, of numbers alone, or with memory. -/
import Derived.Test.YthknbcbkibbncaaGreatFa17
import Derived.Test.YthknbcbkibbncaaGreatFa18
import Derived.Test.YthknbcbkibbncaaGreatFa19
set_option linter.all false
set_option linter.unusedVariables false
namespace Go.Proofs.YthknbcbkibbncaaGreat
namespace Ev
open Go.RowKit
/-- a function taken whole: plain, quick; both agree, are local, are the same in more memory -/
structure OB where
  p : List AV → M AV
  q : List AV → Kq.M AV
  hr : ∀ l, Kq.Ref Eq (q l) (p l)
  hl : ∀ l, Loc (p l)
  hs : ∀ l, Sim (p l)
noncomputable def findB (L : List (Nat × OB)) (f : Nat) : Option OB := match L with
  | [] => none
  | x :: L => match Nat.beq f x.1 with
    | true => some x.2
    | false => findB L f
noncomputable def ownF (L : List (Nat × OB)) (k : Nat) (l : List AV) : M AV := match findB L k with
  | none => M.no
  | some b => b.p l
noncomputable def ownQ (L : List (Nat × OB)) (k : Nat) (l : List AV) : Kq.M AV := match findB L k with
  | none => Kq.M.no
  | some b => b.q l
noncomputable def owL (L : List (Nat × OB)) (f : Nat) : Option Nat := match L with
  | [] => none
  | x :: L => match Nat.beq f x.1 with
    | true => some f
    | false => owL L f
theorem owL_eq : ∀ {L : List (Nat × OB)} {f k : Nat}, owL L f = some k → k = f ∧ ∃ b, findB L f = some b
  | [], _, _, h => by simp [owL] at h
  | x :: L, f, k, h => by
    simp only [owL] at h
    simp only [findB]
    cases hb : Nat.beq f x.1 with
    | true =>
      rw [hb] at h
      cases h
      exact ⟨rfl, _, rfl⟩
    | false =>
      rw [hb] at h
      exact owL_eq h
/-- a level: which functions are taken whole, and that each does what it should -/
structure Lv where
  L : List (Nat × OB)
  ok : ∀ f b, findB L f = some b → OwnOk Tryz.prog (fun _ => b.p) 0 f
noncomputable def Lv.q (v : Lv) : Nat → List AV → Kq.M AV := ownQ v.L
noncomputable def Lv.p (v : Lv) : Nat → List AV → M AV := ownF v.L
noncomputable def Lv.x (v : Lv) : Nat → Option PF := XW (owL v.L)
theorem Lv.hr (v : Lv) (k : Nat) (l : List AV) : Kq.Ref Eq (v.q k l) (v.p k l) := by
  unfold Lv.q Lv.p ownQ ownF
  cases findB v.L k with
  | none => exact Kq.Ref.no
  | some b => exact b.hr l
theorem Lv.hl (v : Lv) (k : Nat) (l : List AV) : Loc (v.p k l) := by
  unfold Lv.p ownF
  cases findB v.L k with
  | none => exact Loc.no
  | some b => exact b.hl l
theorem Lv.hs (v : Lv) (k : Nat) (l : List AV) : Sim (v.p k l) := by
  unfold Lv.p ownF
  cases findB v.L k with
  | none => exact Sim.no
  | some b => exact b.hs l
theorem Lv.tab (v : Lv) : TabOk Tryz.prog YT v.p v.x := tabOk v.p (fun f k h => by
  obtain ⟨rfl, b, hb⟩ := owL_eq h
  have := v.ok k b hb
  intro l s w s' hw
  refine this l s w s' ?_
  have e : v.p k l = b.p l := by unfold Lv.p ownF; rw [hb]
  show b.p l s = _
  rw [← e]
  exact hw)
def Lv.nil : Lv := ⟨[], fun f b h => by cases h⟩
def Lv.push (v : Lv) (f : Nat) (b : OB) (h : OwnOk Tryz.prog (fun _ => b.p) 0 f) : Lv := ⟨(f, b) :: v.L, fun g c hc => by
  simp only [findB] at hc
  cases hb : Nat.beq g f with
  | true =>
    rw [hb] at hc
    cases hc
    rw [Nat.eq_of_beq_eq_true hb]
    exact h
  | false =>
    rw [hb] at hc
    exact v.ok g c hc⟩
noncomputable def OB.repl : OB := ⟨replF 0, Kq.replQ 0, Kq.Ref.replQ 0, Loc.replF 0, Sim.replF 0⟩
noncomputable def OB.memo (t : List Memo) : OB := ⟨memoF t, Kq.memoQ t, Kq.Ref.memoQ t, Loc.memoF t, Sim.memoF t⟩
/-- asked with such memory, else walked -/
noncomputable def swF (t : List SM) (G : List AV → M AV) (l : List AV) : M AV := fun s => match s.tr with
  | true => G l s
  | false => match pickS t l s.n with
    | none => G l s
    | some _ => smF t l s
noncomputable def Kq.swQ (t : List SM) (G : List AV → Kq.M AV) (l : List AV) : Kq.M AV := fun s k => match s.tr with
  | true => G l s k
  | false => match pickS t l s.n with
    | none => G l s k
    | some _ => Kq.smQ t l s k
theorem swF_eq {t : List SM} {G : List AV → M AV} {l : List AV} (s : S) : (swF t G l s = G l s ∧ ∀ u : S, u.tr = s.tr → u.n = s.n → swF t G l u = G l u) ∨ (swF t G l s = smF t l s ∧ ∀ u : S, u.tr = s.tr → u.n = s.n → swF t G l u = smF t l u) := by
  unfold swF
  cases htr : s.tr with
  | true => exact .inl ⟨rfl, fun u hu _ => by rw [hu]⟩
  | false =>
    cases hp : pickS t l s.n with
    | none => exact .inl ⟨rfl, fun u hu hn => by rw [hu, hn]; simp only [hp]⟩
    | some m => exact .inr ⟨rfl, fun u hu hn => by rw [hu, hn]; simp only [hp]⟩
theorem Loc.swF {t : List SM} {G : List AV → M AV} (hG : ∀ l, Loc (G l)) (l : List AV) : Loc (Ev.swF t G l) := by
  intro s a s' h
  rcases swF_eq (t := t) (G := G) (l := l) s with ⟨e1, e2⟩ | ⟨e1, e2⟩
  · rw [e1] at h
    obtain ⟨a1, a2, a3, a4⟩ := hG l s a s' h
    refine ⟨a1, a2, a3, fun hf => ?_⟩
    obtain ⟨R, W, r⟩ := a4 hf
    exact ⟨R, W, ⟨r.log, r.off, fun u u1 u2 u3 => by rw [e2 u u1 u2]; exact r.also u u1 u2 u3⟩⟩
  · rw [e1] at h
    obtain ⟨a1, a2, a3, a4⟩ := Loc.smF t l s a s' h
    refine ⟨a1, a2, a3, fun hf => ?_⟩
    obtain ⟨R, W, r⟩ := a4 hf
    exact ⟨R, W, ⟨r.log, r.off, fun u u1 u2 u3 => by rw [e2 u u1 u2]; exact r.also u u1 u2 u3⟩⟩
theorem Sim.swF {t : List SM} {G : List AV → M AV} (hG : ∀ l, Sim (G l)) (l : List AV) : Sim (Ev.swF t G l) := by
  intro s a s' h
  rcases swF_eq (t := t) (G := G) (l := l) s with ⟨e1, e2⟩ | ⟨e1, e2⟩
  · rw [e1] at h
    obtain ⟨a1, a2⟩ := hG l s a s' h
    exact ⟨a1, fun F N hd hb hN => by rw [e2 (wide F s) rfl rfl]; exact a2 F N hd hb hN⟩
  · rw [e1] at h
    obtain ⟨a1, a2⟩ := Sim.smF t l s a s' h
    exact ⟨a1, fun F N hd hb hN => by rw [e2 (wide F s) rfl rfl]; exact a2 F N hd hb hN⟩
theorem Kq.Ref.swQ {t : List SM} {G : List AV → Kq.M AV} {G' : List AV → Ev.M AV} (hG : ∀ l, Kq.Ref Eq (G l) (G' l)) (l : List AV) : Kq.Ref Eq (Kq.swQ t G l) (Ev.swF t G' l) := by
  intro u s k hs hk
  unfold Kq.swQ at hk
  unfold Ev.swF
  rw [← hs.tr, ← hs.n]
  cases htr : u.tr with
  | true => rw [htr] at hk; exact hG l u s k hs hk
  | false =>
    rw [htr] at hk
    simp only at hk ⊢
    cases hp : pickS t l u.n with
    | none => rw [hp] at hk; exact hG l u s k hs hk
    | some m => rw [hp] at hk; exact Kq.Ref.smQ t l u s k hs hk
noncomputable def OB.sw (v : Lv) (n f : Nat) (t : List SM) : OB := ⟨swF t fun l => (run v.p v.x n).fn f l, Kq.swQ t fun l => (Kq.runQ v.q v.x n).fn f l, Kq.Ref.swQ fun l => Kq.runQ_ok v.hr v.x n f l, Loc.swF fun l => (Loc.run v.hl v.x n).fn f l, Sim.swF fun l => (Sim.run v.hs v.x n).fn f l⟩
theorem Lv.memo_ok (v : Lv) {n f : Nat} {t : List Memo} (h : ∀ m ∈ t, scal m.r = true ∧ m.a.all scal = true ∧ Kq.askR v.q v.x n f m = true) : OwnOk Tryz.prog (fun _ => (OB.memo t).p) 0 f :=
  Ev.memo_ok tyOk mixOk v.hl v.tab (fun m hm => ⟨(h m hm).1, (h m hm).2.1, n, Kq.askR_ok v.hr (h m hm).2.2⟩) rfl
theorem Lv.sw_ok (v : Lv) {n f : Nat} {t : List SM} (h : ∀ m ∈ t, Kq.askS v.q v.x n f m = true) : OwnOk Tryz.prog (fun _ => (OB.sw v n f t).p) 0 f := by
  have h1 : OwnOk Tryz.prog (fun _ => smF t) 0 f := sm_ok tyOk mixOk v.hl v.hs v.tab (fun m hm => ⟨n, Kq.askS_ok v.hr (h m hm)⟩) rfl
  intro l s w s' hw
  change swF t (fun l => (run v.p v.x n).fn f l) l s = some (w, s') at hw
  rcases swF_eq (t := t) (G := fun l => (run v.p v.x n).fn f l) (l := l) s with ⟨e1, _⟩ | ⟨e1, _⟩
  · rw [e1] at hw
    intro β D B W ww L hL hr hfr
    exact (run_ok tyOk mixOk v.hl v.tab n n (Nat.le_refl _) f l s w s' hw β D B W ww L hL hr hfr).2
  · rw [e1] at hw
    exact h1 l s w s' hw
theorem Lv.closed (v : Lv) {n f : Nat} (h : Kq.ask v.q v.x n f = true) (w : World) :
    Calls Tryz.prog f #[] w fun e w' => e = .returned (.bool true) ∧ Below w.heap.size w w' := by
  obtain ⟨s', hs⟩ := Kq.ask_ok v.hr h
  exact closed_ok tyOk mixOk v.hl v.tab hs w
/-- slices.Replace alone -/
noncomputable def lv0 : Lv := Lv.nil.push 383 OB.repl replOk
/-- numbers -/
def nU (n : Nat) : AV := .i .u64 (.ofNat n)
end Ev
end Go.Proofs.YthknbcbkibbncaaGreat

/- DERIVED. Short words for memory written out. -/
namespace Go.Proofs.YthknbcbkibbncaaGreat
namespace Ev
namespace Lt
abbrev d0 : Dg := .d0
abbrev d1 : Dg := .d1
abbrev d2 : Dg := .d2
abbrev d3 : Dg := .d3
abbrev d4 : Dg := .d4
abbrev d5 : Dg := .d5
abbrev d6 : Dg := .d6
abbrev d7 : Dg := .d7
def u (n : Nat) : AV := .i .u8 (.ofNat n)
def w (n : Nat) : AV := .i .u64 (.ofNat n)
def i (n : Nat) : AV := .i .i64 (.ofNat n)
def j (n : Nat) : AV := .i .i64 (.negSucc n)
def t : AV := .b true
def f : AV := .b false
def p0 : AV := .p0
def s0 : AV := .s0
/-- n times a cell, and on -/
noncomputable def R (n : Nat) (v : AV) (l : List AV) : List AV := Nat.rec l (fun _ l => v :: l) n
/-- these cells, and on -/
noncomputable def C (x l : List AV) : List AV := List.rec l (fun v _ l => v :: l) x
end Lt
end Ev
end Go.Proofs.YthknbcbkibbncaaGreat

/- DERIVED. Memory ahead of a call and behind it, written out. -/
set_option maxRecDepth 100000
namespace Go.Proofs.YthknbcbkibbncaaGreat
open Ev Ev.Lt
noncomputable def fb3k0 : Blk := ⟨⟨false, true, true, none⟩, R 8 (u 0) <| C [i 0, f] <| R 8 (u 0) <| C [i 0, f] <| R 8 (u 0) <| C [i 0, f] <| R 8 (u 0) <| C [i 0, f] <| R 8 (u 0) <| C [i 0, f] <| R 8 (u 0) <| C [i 0, f] <| R 8 (u 0) <| C [i 0, f] <| R 8 (u 0) <| C [i 0, f] <| R 8 (u 0) <| C [i 0, f] <| R 8 (u 0) <| C [i 0, f] <| R 8 (u 0) <| C [i 0, f] <| R 8 (u 0) <| C [i 0, f] <| R 8 (u 0) <| C [i 0, f] <| R 8 (u 0) <| C [i 0, f] <| R 8 (u 0) <| C [i 0, f] <| R 8 (u 0) <| C [i 0, f] <| R 8 (u 0) <| C [i 0, f] <| R 8 (u 0) <| C [i 0, f] <| R 8 (u 0) <| C [i 0, f] <| R 8 (u 0) <| C [i 0, f] <| R 8 (u 0) <| C [i 0, f] <| R 8 (u 0) <| C [i 0, f] <| R 8 (u 0) <| C [i 0, f] <| R 8 (u 0) <| C [i 0, f] <| R 8 (u 0) <| C [i 0, f] <| R 8 (u 0) <| C [i 0, f] <| R 8 (u 0) <| C [i 0, f] <| R 8 (u 0) <| C [i 0, f] <| R 8 (u 0) <| C [i 0, f] <| R 8 (u 0) <| C [i 0, f] <| R 8 (u 0) <| C [i 0, f] <| R 8 (u 0) <| C [i 0, f] <| R 8 (u 0) <| C [i 0, f] <| R 8 (u 0) <| C [i 0, f] <| R 8 (u 0) <| C [i 0, f] <| R 8 (u 0) <| C [i 0, f] <| R 8 (u 0) <| C [i 0, f] <| R 8 (u 0) <| C [i 0, f] <| R 8 (u 0) <| C [i 0, f] <| R 8 (u 0) <| C [i 0, f] <| R 8 (u 0) <| C [i 0, f] <| R 8 (u 0) <| C [i 0, f] <| R 8 (u 0) <| C [i 0, f] <| R 8 (u 0) <| C [i 0, f] <| R 8 (u 0) <| C [i 0, f] <| R 8 (u 0) <| C [i 0, f] <| R 8 (u 0) <| C [i 0, f] <| R 8 (u 0) <| C [i 0, f] <| R 8 (u 0) <| C [i 0, f] <| R 8 (u 0) <| C [i 0, f] <| R 8 (u 0) <| C [i 0, f] <| R 8 (u 0) <| C [i 0, f] <| R 8 (u 0) <| C [i 0, f] <| R 8 (u 0) <| C [i 0, f] <| R 8 (u 0) <| C [i 0, f] <| R 8 (u 0) <| C [i 0, f] <| R 8 (u 0) <| C [i 0, f] <| R 8 (u 0) <| C [i 0, f] <| R 8 (u 0) <| C [i 0, f] <| R 8 (u 0) <| C [i 0, f] <| R 8 (u 0) <| C [i 0, f] <| R 8 (u 0) <| C [i 0, f] <| R 8 (u 0) <| C [i 0, f] <| R 8 (u 0) <| [i 0, f]⟩
noncomputable def fb3k1 : Blk := ⟨⟨false, true, true, none⟩, [.sl ⟨d0, d0, d0, d0, d6, d0⟩ 0 64 64, i 0]⟩
noncomputable def fb3k2 : Blk := ⟨⟨false, true, true, none⟩, C [i 4194304] <| R 257 (s0) <| [.m ⟨d0, d0, d2, d0, d4, d4⟩]⟩
noncomputable def fb3k3 : Blk := ⟨⟨false, true, true, none⟩, C [w 77, w 8, w 0, w 100000, w 9999, w 99] <| R 8 (u 0) <| R 8 (p0) <| [.p ⟨d0, d0, d0, d0, d6, d1⟩ 0, .p ⟨d0, d0, d0, d0, d6, d3⟩ 0, w 0, i 0, i 0, j 0, f]⟩
noncomputable def fb3k4 : Blk := ⟨⟨false, true, true, none⟩, C [i 1, w 77, w 0, w 8, w 0, w 100000, w 9999, w 99] <| R 8 (u 0) <| C [w 0, w 100000, w 9999, w 99] <| R 8 (u 0) <| [i 4194304, .p ⟨d0, d0, d0, d0, d6, d4⟩ 0, .so ⟨d0, d0, d0, d0, d7, d0⟩ 0 1 1 1, .so ⟨d0, d0, d3, d5, d5, d2⟩ 0 2 2 3, w 1, i 2]⟩
noncomputable def fb3k5 : Blk := ⟨⟨false, true, true, none⟩, [i 1, .p ⟨d0, d0, d0, d1, d2, d0⟩ 0]⟩
noncomputable def fb3k6 : Blk := ⟨⟨false, true, false, none⟩, [.p ⟨d0, d0, d0, d0, d6, d6⟩ 0]⟩
noncomputable def fb3k7 : Blk := ⟨⟨false, true, true, none⟩, C [f, w 0, w 100000, w 2048, w 8, u 14, u 40, u 90, u 53, u 109, u 71, u 210, u 166, .p ⟨d0, d0, d0, d3, d1, d5⟩ 0, .p ⟨d0, d0, d0, d1, d3, d0⟩ 0, .p ⟨d0, d0, d0, d1, d4, d0⟩ 0, .p ⟨d0, d0, d0, d1, d5, d0⟩ 0, .p ⟨d0, d0, d0, d1, d5, d4⟩ 0, .p ⟨d0, d0, d0, d1, d6, d0⟩ 0, .p ⟨d0, d0, d0, d2, d0, d4⟩ 0, u 38, u 229, u 221, u 232, u 15, u 174, u 12, u 221, u 14, u 40, u 90, u 53, u 109, u 71, u 210, u 166, f, .p ⟨d0, d0, d0, d2, d0, d5⟩ 0, w 1961060048129653687, .p ⟨d0, d0, d0, d1, d6, d1⟩ 0, .p ⟨d0, d0, d0, d1, d6, d2⟩ 0, i 1, w 0, f, f, i 4194304, i 0, i 0, i 4194304, i 0, i 1] <| R 6 (f) <| C [w 0, s0, s0, i 0, s0] <| R 5 (w 0) <| [f]⟩
noncomputable def fb3k8 : Blk := ⟨⟨false, true, true, none⟩, [.so ⟨d0, d0, d3, d5, d4, d7⟩ 0 1 1 5, w 2, w 0, f]⟩
noncomputable def fb3k9 : Blk := ⟨⟨false, true, true, none⟩, [i 16, s0]⟩
noncomputable def fb3k10 : Blk := ⟨⟨false, true, true, none⟩, [i 2048, s0]⟩
noncomputable def fb3k11 : Blk := ⟨⟨false, true, true, none⟩, C [w 0, w 0, w 0, f] <| R 2048 (u 0) <| [.p ⟨d0, d0, d0, d1, d2, d3⟩ 0]⟩
noncomputable def fb3k12 : Blk := ⟨⟨false, true, true, none⟩, [i 1048576, s0]⟩
noncomputable def fb3k13 : Blk := ⟨⟨false, true, true, none⟩, C [.so ⟨d0, d0, d0, d3, d3, d3⟩ 0 34 34 1, w 0, w 34, w 34, .p ⟨d0, d0, d0, d1, d2, d5⟩ 0, .p ⟨d0, d0, d0, d1, d2, d6⟩ 0] <| R 4 (f) <| []⟩
noncomputable def fb3k14 : Blk := ⟨⟨false, true, true, none⟩, [t, f, w 16771745522608266097, w 15577733363662247925, w 11821770327895803635, w 10002830118786234708, .p ⟨d0, d0, d0, d1, d2, d1⟩ 0, .p ⟨d0, d0, d0, d1, d2, d2⟩ 0, f, .p ⟨d0, d0, d0, d1, d2, d4⟩ 0, .p ⟨d0, d0, d0, d1, d2, d7⟩ 0, i 34, f, f]⟩
noncomputable def fb3k15 : Blk := ⟨⟨false, true, true, none⟩, [s0, w 0, w 0, f]⟩
noncomputable def fb3k16 : Blk := ⟨⟨false, true, true, none⟩, C [w 0, w 0, w 0, f] <| R 2048 (u 0) <| [.p ⟨d0, d0, d0, d1, d3, d3⟩ 0]⟩
noncomputable def fb3k17 : Blk := ⟨⟨false, true, true, none⟩, C [s0, w 0, w 0, w 0, .p ⟨d0, d0, d0, d1, d3, d5⟩ 0, .p ⟨d0, d0, d0, d1, d3, d6⟩ 0] <| R 4 (f) <| []⟩
noncomputable def fb3k18 : Blk := ⟨⟨false, true, true, none⟩, C [f, f] <| R 4 (w 0) <| [.p ⟨d0, d0, d0, d1, d3, d1⟩ 0, .p ⟨d0, d0, d0, d1, d3, d2⟩ 0, f, .p ⟨d0, d0, d0, d1, d3, d4⟩ 0, .p ⟨d0, d0, d0, d1, d3, d7⟩ 0, i 0, f, f]⟩
noncomputable def fb3k19 : Blk := ⟨⟨false, true, true, none⟩, C [s0, w 0, w 0, w 0, .p ⟨d0, d0, d0, d1, d4, d5⟩ 0, .p ⟨d0, d0, d0, d1, d4, d6⟩ 0] <| R 4 (f) <| []⟩
noncomputable def fb3k20 : Blk := ⟨⟨false, true, true, none⟩, C [f, f] <| R 4 (w 0) <| [.p ⟨d0, d0, d0, d1, d4, d1⟩ 0, .p ⟨d0, d0, d0, d1, d4, d2⟩ 0, f, .p ⟨d0, d0, d0, d1, d4, d4⟩ 0, .p ⟨d0, d0, d0, d1, d4, d7⟩ 0, i 0, f, f]⟩
noncomputable def fb3k21 : Blk := ⟨⟨false, true, true, none⟩, [w 0, s0]⟩
noncomputable def fb3k22 : Blk := ⟨⟨false, true, true, none⟩, [w 1, s0]⟩
noncomputable def fb3k23 : Blk := ⟨⟨false, true, true, none⟩, C [w 0, w 100000, w 2048, w 8, u 14, u 40, u 90, u 53, u 109, u 71, u 210, u 166] <| R 4 (w 0) <| R 8 (u 0) <| [.p ⟨d0, d0, d0, d1, d5, d2⟩ 0, .p ⟨d0, d0, d0, d1, d5, d3⟩ 0, w 0, f, w 100000, f, w 0]⟩
noncomputable def fb3k24 : Blk := ⟨⟨false, true, true, none⟩, [w 0, u 38, u 229, u 221, u 232, u 15, u 174, u 12, u 221]⟩
noncomputable def fb3k25 : Blk := ⟨⟨false, true, true, none⟩, [.sl ⟨d0, d0, d0, d1, d5, d7⟩ 0 1 1, w 1, w 12270002915364367195]⟩
noncomputable def fb3k26 : Blk := ⟨⟨false, true, true, none⟩, [i 10, i 5, i 0, f]⟩
noncomputable def fb3k27 : Blk := ⟨⟨false, true, true, none⟩, [i 5120, i 1073741824, j 0]⟩
noncomputable def fb3k28 : Blk := ⟨⟨false, true, true, none⟩, [.sl ⟨d0, d0, d0, d2, d0, d0⟩ 0 1 1, .m ⟨d0, d0, d0, d2, d0, d1⟩, .m ⟨d0, d0, d0, d2, d0, d2⟩, w 0, u 14, u 40, u 90, u 53, u 109, u 71, u 210, u 166, .m ⟨d0, d0, d0, d2, d0, d3⟩, s0]⟩
noncomputable def fb3k29 : Blk := ⟨⟨false, true, true, none⟩, [i 0, t, w 1961060048129653687, i 0, i 1024]⟩
noncomputable def fb3k30 : Blk := ⟨⟨false, true, true, none⟩, C [t, w 77, .so ⟨d0, d0, d0, d3, d3, d0⟩ 0 34 34 1, s0, s0, s0, f, f, w 0, f, f] <| R 4 (w 0) <| R 8 (u 0) <| [i 0]⟩
noncomputable def fb3k31 : Blk := ⟨⟨true, true, false, none⟩, [u 1, u 0, u 31, u 34, u 192, u 137, u 116, u 239, u 154, u 94, u 143, u 4, u 4, u 128, u 1, u 134, u 160, u 5, u 2, u 72, u 0, u 8, u 1, u 8, u 0, u 8, u 14, u 40, u 90, u 53, u 109, u 71, u 210, u 166]⟩
noncomputable def fb3k32 : Blk := ⟨⟨true, true, false, none⟩, [u 205, u 0, u 0, u 0, u 1, u 8, u 14, u 40, u 90, u 53, u 109, u 71, u 210, u 166, u 8, u 38, u 229, u 221, u 232, u 15, u 174, u 12, u 221, u 0, u 65, u 230, u 24, u 128, u 46, u 180, u 178, u 202, u 57, u 153, u 109, u 73, u 209, u 193, u 210, u 20, u 168, u 108, u 216, u 164, u 160, u 5, u 131, u 203, u 123, u 238, u 164, u 4, u 57, u 190, u 216, u 209, u 212, u 2, u 173, u 3, u 45, u 248, u 210, u 101, u 7, u 62, u 232, u 42, u 66, u 5, u 13, u 250, u 52, u 186, u 224, u 69, u 245, u 90, u 105, u 88, u 204, u 93, u 149, u 251, u 87, u 95, u 53, u 104, u 184, u 99, u 191, u 61, u 165, u 56, u 55, u 225, u 72, u 97, u 115, u 10, u 188, u 65, u 46, u 234, u 16, u 239, u 32, u 184, u 178, u 156, u 200, u 234, u 6, u 173, u 185, u 110, u 46, u 22, u 133, u 150, u 223, u 255, u 231, u 81, u 242, u 186, u 254, u 138, u 171, u 193, u 13, u 47, u 253, u 89, u 14, u 17, u 218, u 142, u 141, u 50, u 118, u 15, u 33, u 76, u 59, u 103, u 83, u 91, u 226, u 152, u 88, u 231, u 200, u 82, u 144, u 60, u 246, u 70, u 228, u 220, u 75, u 23, u 73, u 45, u 89, u 21, u 5, u 55, u 219, u 152, u 4, u 83, u 135, u 243, u 142, u 203, u 113, u 138, u 14, u 44, u 177, u 77, u 75, u 105, u 227, u 200, u 33, u 114, u 117, u 0, u 41, u 19, u 233, u 80, u 245, u 179, u 133, u 97, u 17, u 134, u 174, u 54, u 179, u 36, u 156, u 33, u 102, u 119, u 3, u 101, u 71, u 47, u 233, u 125, u 145, u 83, u 17, u 107, u 200, u 124, u 128, u 164, u 35, u 113, u 94, u 60, u 200, u 217, u 17, u 79, u 203, u 176, u 148, u 137, u 120, u 4, u 160, u 43, u 182, u 13, u 51, u 92, u 187, u 5, u 113, u 254, u 179, u 4, u 75, u 90, u 102, u 255, u 180, u 215, u 16, u 116, u 158, u 214, u 38, u 62, u 38, u 85, u 172, u 236, u 106, u 203, u 76, u 182, u 14, u 88, u 191, u 153, u 0, u 190, u 80, u 152, u 22, u 217, u 129, u 176, u 105, u 64, u 61, u 71, u 172, u 137, u 227, u 125, u 195, u 53, u 44, u 164, u 61, u 53, u 139, u 50, u 43, u 223, u 28, u 209, u 40, u 22, u 49, u 99, u 72, u 160, u 56, u 188, u 161, u 9, u 194, u 134, u 166, u 234, u 19, u 254, u 80, u 51, u 12, u 190, u 195, u 196, u 94, u 213, u 226, u 197, u 49, u 163, u 230, u 53, u 189, u 129, u 58, u 62, u 127, u 218, u 154, u 52, u 172, u 46, u 217, u 17, u 90, u 114, u 65, u 150, u 42, u 89, u 153, u 62, u 43, u 180, u 111, u 199, u 238, u 62, u 44, u 198, u 217, u 143, u 210, u 187, u 241, u 240, u 47, u 53, u 244, u 212, u 41, u 53, u 127, u 183, u 242, u 1, u 14, u 218, u 172, u 211, u 205, u 231, u 55, u 205, u 205, u 66, u 171, u 71, u 121, u 99, u 127, u 11, u 51, u 101, u 174, u 41, u 90, u 105, u 217, u 129, u 33, u 138, u 74, u 235, u 89, u 93, u 136, u 82, u 104, u 124, u 248, u 158, u 166, u 233, u 209, u 78, u 91, u 115, u 1, u 92, u 49, u 83, u 192, u 91, u 176, u 118, u 205, u 145, u 235, u 96, u 47, u 147, u 26, u 80, u 129, u 151, u 96, u 65, u 36, u 103, u 63, u 203, u 211, u 168, u 211, u 137, u 160, u 113, u 90, u 234, u 149, u 246, u 135, u 222, u 84, u 118, u 32, u 199, u 195, u 12, u 113, u 13, u 222, u 57, u 17, u 207, u 147, u 151, u 206, u 29, u 13, u 85, u 24, u 149, u 78, u 109, u 47, u 179, u 228, u 22, u 35, u 192, u 192, u 140, u 210, u 43, u 244, u 113, u 0, u 228, u 24, u 242, u 29, u 235, u 68, u 99, u 19, u 215, u 234, u 168, u 63, u 18, u 18, u 9, u 254, u 252, u 194, u 101, u 47, u 156, u 27, u 81, u 201, u 171]⟩
noncomputable def fb3k33 : Blk := ⟨⟨false, true, true, some ([i 0])⟩, []⟩
noncomputable def fb3k34 : Blk := ⟨⟨true, true, false, none⟩, [u 206, u 0, u 0, u 0, u 1, u 8, u 14, u 40, u 90, u 53, u 109, u 71, u 210, u 166, u 8, u 38, u 229, u 221, u 232, u 15, u 174, u 12, u 221, u 0, u 65, u 230, u 17, u 15, u 191, u 67, u 148, u 98, u 74, u 84, u 35, u 223, u 149, u 94, u 50, u 62, u 159, u 47, u 117, u 173, u 182, u 22, u 24, u 135, u 45, u 16, u 25, u 246, u 23, u 170, u 117, u 8, u 44, u 229, u 237, u 144, u 186, u 220, u 15, u 199, u 78, u 206, u 166, u 162, u 10, u 134, u 122, u 102, u 7, u 199, u 128, u 88, u 57, u 167, u 160, u 212, u 165, u 239, u 96, u 89, u 32, u 167, u 105, u 110, u 51, u 201, u 152, u 48, u 8, u 250, u 152, u 162, u 229, u 171, u 176, u 38, u 209, u 46, u 19, u 16, u 188, u 36, u 168, u 55, u 121, u 78, u 168, u 243, u 168, u 190, u 220, u 62, u 250, u 23, u 196, u 58, u 164, u 20, u 49, u 128, u 244, u 51, u 61, u 68, u 32, u 208, u 132, u 114, u 171, u 148, u 172, u 224, u 60, u 191, u 100, u 96, u 141, u 184, u 249, u 237, u 181, u 203, u 255, u 159, u 65, u 225, u 78, u 201, u 84, u 52, u 18, u 212, u 152, u 204, u 154, u 55, u 137, u 71, u 49, u 86, u 207, u 61, u 137, u 5, u 113, u 219, u 227, u 182, u 209, u 52, u 162, u 129, u 48, u 176, u 182, u 253, u 98, u 3, u 217, u 91, u 102, u 34, u 103, u 254, u 248, u 92, u 242, u 13, u 32, u 63, u 42, u 173, u 37, u 45, u 80, u 76, u 191, u 134, u 183, u 189, u 78, u 140, u 203, u 93, u 197, u 66, u 164, u 227, u 41, u 226, u 232, u 74, u 64, u 210, u 45, u 50, u 149, u 104, u 197, u 14, u 178, u 109, u 16, u 121, u 38, u 55, u 252, u 211, u 111, u 148, u 131, u 90, u 119, u 160, u 59, u 14, u 213, u 213, u 140, u 46, u 39, u 38, u 10, u 208, u 159, u 217, u 234, u 126, u 66, u 220, u 211, u 43, u 119, u 26, u 253, u 122, u 117, u 199, u 112, u 46, u 220, u 117, u 221, u 36, u 213, u 163, u 35, u 131, u 174, u 162, u 161, u 54, u 209, u 245, u 109, u 46, u 105, u 76, u 30, u 190, u 247, u 14, u 102, u 179, u 66, u 77, u 111, u 226, u 51, u 130, u 55, u 168, u 21, u 190, u 116, u 209, u 226, u 51, u 127, u 19, u 47, u 89, u 116, u 242, u 59, u 206, u 211, u 240, u 98, u 179, u 95, u 127, u 216, u 207, u 251, u 255, u 134, u 194, u 81, u 148, u 228, u 140, u 208, u 235, u 53, u 118, u 249, u 33, u 45, u 209, u 180, u 152, u 231, u 167, u 114, u 163, u 192, u 255, u 131, u 246, u 242, u 246, u 212, u 123, u 236, u 48, u 66, u 186, u 208, u 9, u 208, u 32, u 52, u 31, u 7, u 115, u 94, u 245, u 186, u 154, u 166, u 154, u 206, u 118, u 180, u 130, u 75, u 187, u 0, u 54, u 34, u 144, u 158, u 26, u 36, u 68, u 170, u 152, u 186, u 157, u 128, u 167, u 61, u 20, u 55, u 85, u 40, u 13, u 104, u 49, u 62, u 28, u 78, u 80, u 104, u 140, u 114, u 150, u 4, u 199, u 107, u 182, u 58, u 40, u 163, u 111, u 215, u 189, u 185, u 11, u 249, u 71, u 112, u 29, u 92, u 81, u 4, u 207, u 105, u 99, u 57, u 204, u 77, u 180, u 232, u 134, u 93, u 6, u 20, u 209, u 179, u 106, u 129, u 117, u 94, u 46, u 187, u 122, u 129, u 251, u 196, u 136, u 167, u 221, u 86, u 106, u 176, u 142, u 104, u 197, u 205, u 218, u 100, u 62, u 64, u 252, u 87, u 125, u 176, u 248, u 227, u 84, u 229, u 215, u 227, u 170, u 98, u 131, u 236, u 68, u 176, u 157, u 235, u 57, u 249, u 98, u 97, u 226, u 118, u 191, u 220, u 135, u 195, u 76, u 71, u 248, u 237, u 61, u 245, u 21, u 171, u 205, u 99, u 250, u 187, u 111, u 142, u 210, u 134, u 148, u 204, u 56, u 180, u 191, u 150, u 254, u 10, u 211]⟩
noncomputable def fb3k35 : Blk := ⟨⟨false, true, false, none⟩, [w 1, i 4194304, i 512, t, .so ⟨d0, d0, d3, d5, d4, d5⟩ 0 1 1 19]⟩
noncomputable def fb3k36 : Blk := ⟨⟨false, true, false, none⟩, [i 1, i 0, .so ⟨d0, d0, d1, d7, d4, d5⟩ 0 512 512 1, i 1, i 0, .so ⟨d0, d0, d3, d5, d1, d5⟩ 0 512 512 1]⟩
noncomputable def fb3k37 : Blk := ⟨⟨false, true, true, none⟩, [.sl ⟨d0, d7, d3, d4, d2, d4⟩ 0 64 64, i 3]⟩
noncomputable def fb3k38 : Blk := ⟨⟨false, true, true, none⟩, C [i 4194304, s0, s0, s0, .so ⟨d0, d6, d5, d1, d7, d0⟩ 0 0 1 2] <| R 28 (s0) <| C [.so ⟨d0, d2, d2, d2, d0, d6⟩ 0 0 1 2] <| R 224 (s0) <| [.m ⟨d0, d0, d2, d0, d4, d4⟩]⟩
noncomputable def fb3k39 : Blk := ⟨⟨false, true, true, none⟩, C [w 77, w 8, w 0, w 100000, w 9999, w 99] <| R 8 (u 0) <| C [.p ⟨d0, d2, d1, d1, d7, d5⟩ 0] <| R 7 (p0) <| [.p ⟨d0, d0, d0, d0, d6, d1⟩ 0, .p ⟨d0, d0, d0, d0, d6, d3⟩ 0, w 1, i 1, i 0, i 0, f]⟩
noncomputable def fb3k40 : Blk := ⟨⟨false, true, true, none⟩, C [i 1, w 77, w 0, w 8, w 0, w 100000, w 9999, w 99] <| R 8 (u 0) <| C [w 0, w 100000, w 9999, w 99] <| R 8 (u 0) <| [i 4194304, .p ⟨d0, d0, d0, d0, d6, d4⟩ 0, .so ⟨d0, d0, d0, d0, d7, d0⟩ 0 1 1 1, .so ⟨d0, d2, d2, d7, d5, d7⟩ 0 0 3 3, w 1, i 2]⟩
noncomputable def fb3k41 : Blk := ⟨⟨false, true, true, none⟩, [f, w 0, w 100000, w 2048, w 8, u 14, u 40, u 90, u 53, u 109, u 71, u 210, u 166, .p ⟨d0, d0, d0, d3, d1, d5⟩ 0, .p ⟨d0, d0, d0, d1, d3, d0⟩ 0, .p ⟨d0, d0, d0, d1, d4, d0⟩ 0, .p ⟨d0, d0, d0, d1, d5, d0⟩ 0, .p ⟨d0, d0, d0, d1, d5, d4⟩ 0, .p ⟨d0, d0, d0, d1, d6, d0⟩ 0, .p ⟨d0, d4, d1, d7, d6, d0⟩ 0, u 38, u 229, u 221, u 232, u 15, u 174, u 12, u 221, u 14, u 40, u 90, u 53, u 109, u 71, u 210, u 166, t, .p ⟨d0, d0, d0, d2, d0, d5⟩ 0, w 1961060048129653687, .p ⟨d0, d0, d0, d1, d6, d1⟩ 0, .p ⟨d0, d0, d0, d1, d6, d2⟩ 0, i 2, w 0, f, f, i 4194304, i 0, i 4194304, i 4194304, i 0, i 0, t, t, t, f, f, f, w 0, s0, s0, i 0, .so ⟨d0, d7, d0, d1, d0, d7⟩ 19 0 0 19, w 0, w 8095388415232214585, w 16266829629076209024, w 0, w 0, t]⟩
noncomputable def fb3k42 : Blk := ⟨⟨false, true, true, none⟩, [s0, w 3, w 0, t]⟩
noncomputable def fb3k43 : Blk := ⟨⟨false, true, true, none⟩, [i 16, .so ⟨d0, d4, d1, d7, d6, d6⟩ 0 1 1 2]⟩
noncomputable def fb3k44 : Blk := ⟨⟨false, true, true, none⟩, [i 2048, .so ⟨d0, d4, d2, d2, d1, d5⟩ 0 1 1 2]⟩
noncomputable def fb3k45 : Blk := ⟨⟨false, true, true, none⟩, C [w 34, w 34, w 0, f, u 1, u 0, u 31, u 171, u 86, u 46, u 203, u 174, u 215, u 235, u 57, u 4, u 4, u 128, u 1, u 134, u 160, u 5, u 2, u 72, u 0, u 8, u 1, u 8, u 0, u 8, u 14, u 40, u 90, u 53, u 109, u 71, u 210, u 166] <| R 2014 (u 0) <| [.p ⟨d0, d0, d0, d1, d2, d3⟩ 0]⟩
noncomputable def fb3k46 : Blk := ⟨⟨false, true, true, none⟩, [t, t, w 16771745522608266097, w 15577733363662247925, w 11821770327895803635, w 10002830118786234708, .p ⟨d0, d0, d0, d1, d2, d1⟩ 0, .p ⟨d0, d0, d0, d1, d2, d2⟩ 0, f, .p ⟨d0, d0, d0, d1, d2, d4⟩ 0, .p ⟨d0, d0, d0, d1, d2, d7⟩ 0, i 34, f, f]⟩
noncomputable def fb3k47 : Blk := ⟨⟨false, true, true, none⟩, [s0, w 1, w 0, f]⟩
noncomputable def fb3k48 : Blk := ⟨⟨false, true, true, none⟩, [i 16, .so ⟨d0, d4, d4, d5, d2, d5⟩ 0 1 1 2]⟩
noncomputable def fb3k49 : Blk := ⟨⟨false, true, true, none⟩, [i 2048, .so ⟨d0, d4, d4, d6, d1, d5⟩ 0 1 1 2]⟩
noncomputable def fb3k50 : Blk := ⟨⟨false, true, true, none⟩, C [w 11, w 11, w 0, f, u 20, u 0, u 8, u 215, u 97, u 56, u 66, u 193, u 173, u 69, u 250] <| R 2037 (u 0) <| [.p ⟨d0, d0, d0, d1, d3, d3⟩ 0]⟩
noncomputable def fb3k51 : Blk := ⟨⟨false, true, true, none⟩, C [.so ⟨d0, d4, d4, d6, d4, d4⟩ 0 11 11 1, w 0, w 11, w 11, .p ⟨d0, d0, d0, d1, d3, d5⟩ 0, .p ⟨d0, d0, d0, d1, d3, d6⟩ 0] <| R 4 (f) <| []⟩
noncomputable def fb3k52 : Blk := ⟨⟨false, true, true, none⟩, [t, t, w 6824898170549455736, w 18324348509444611745, w 944634819486644638, w 12261026275026681946, .p ⟨d0, d0, d0, d1, d3, d1⟩ 0, .p ⟨d0, d0, d0, d1, d3, d2⟩ 0, f, .p ⟨d0, d0, d0, d1, d3, d4⟩ 0, .p ⟨d0, d0, d0, d1, d3, d7⟩ 0, i 11, f, f]⟩
noncomputable def fb3k53 : Blk := ⟨⟨false, true, true, none⟩, [s0, w 1, w 0, t]⟩
noncomputable def fb3k54 : Blk := ⟨⟨false, true, true, none⟩, [i 16, .so ⟨d0, d7, d3, d1, d1, d0⟩ 0 1 1 2]⟩
noncomputable def fb3k55 : Blk := ⟨⟨false, true, true, none⟩, [t, f, w 618901121709496952, w 10244074582834310459, w 16096892493844711767, w 464609521764292413, .p ⟨d0, d0, d0, d1, d4, d1⟩ 0, .p ⟨d0, d0, d0, d1, d4, d2⟩ 0, f, .p ⟨d0, d0, d0, d1, d4, d4⟩ 0, .p ⟨d0, d0, d0, d1, d4, d7⟩ 0, i 0, f, f]⟩
noncomputable def fb3k56 : Blk := ⟨⟨false, true, true, none⟩, C [w 0, w 100000, w 2048, w 8, u 14, u 40, u 90, u 53, u 109, u 71, u 210, u 166, w 0, w 100000, w 2048, w 8] <| R 8 (u 0) <| [.p ⟨d0, d0, d0, d1, d5, d2⟩ 0, .p ⟨d0, d0, d0, d1, d5, d3⟩ 0, w 0, f, w 100000, f, w 100000]⟩
noncomputable def fb3k57 : Blk := ⟨⟨false, true, true, none⟩, [.so ⟨d0, d7, d0, d1, d0, d4⟩ 0 2 2 9, w 2, w 2595149488819583058]⟩
noncomputable def fb3k58 : Blk := ⟨⟨false, true, true, none⟩, [i 0, i 0, i 0, t]⟩
noncomputable def fb3k59 : Blk := ⟨⟨false, true, true, none⟩, [i 5155, i 1073741824, j 0]⟩
noncomputable def fb3k60 : Blk := ⟨⟨false, true, true, none⟩, [i 0, t, w 1961060048129653687, i 219, i 1624]⟩
noncomputable def fb3k61 : Blk := ⟨⟨false, true, true, none⟩, [t, w 77, .so ⟨d0, d0, d0, d3, d3, d0⟩ 0 34 34 1, .so ⟨d0, d4, d4, d6, d3, d7⟩ 0 11 11 1, .so ⟨d0, d4, d2, d2, d1, d7⟩ 0 34 34 1, .so ⟨d0, d4, d4, d6, d1, d7⟩ 0 11 11 1, t, t, w 13853054765925153642, t, t, w 0, w 100000, w 2048, w 8, u 14, u 40, u 90, u 53, u 109, u 71, u 210, u 166, i 0]⟩
noncomputable def fb3k62 : Blk := ⟨⟨false, true, true, some ([i 20])⟩, []⟩
noncomputable def fb3k63 : Blk := ⟨⟨false, true, true, none⟩, [t, w 0, w 100000, w 2048, w 8, u 14, u 40, u 90, u 53, u 109, u 71, u 210, u 166, .p ⟨d0, d0, d4, d1, d0, d0⟩ 0, .p ⟨d0, d0, d3, d7, d1, d3⟩ 0, .p ⟨d0, d0, d3, d7, d2, d3⟩ 0, .p ⟨d0, d0, d3, d7, d3, d3⟩ 0, .p ⟨d0, d0, d3, d7, d3, d7⟩ 0, .p ⟨d0, d0, d3, d7, d4, d3⟩ 0, .p ⟨d0, d0, d3, d7, d6, d7⟩ 0, u 8, u 210, u 144, u 81, u 57, u 19, u 241, u 120, u 14, u 40, u 90, u 53, u 109, u 71, u 210, u 166, f, .p ⟨d0, d0, d3, d7, d7, d0⟩ 0, w 264439261909846019, .p ⟨d0, d0, d3, d7, d4, d4⟩ 0, .p ⟨d0, d0, d3, d7, d4, d5⟩ 0, i 2, w 0, f, f, i 4194304, i 0, i 4194304, i 4194304, i 0, i 0, t, t, t, f, f, f, w 0, s0, s0, i 0, .so ⟨d0, d6, d6, d3, d5, d3⟩ 19 0 0 19, w 0, w 16266829629076209024, w 8095388415232214585, w 0, w 0, t]⟩
noncomputable def fb3k64 : Blk := ⟨⟨false, true, true, none⟩, [s0, w 2, w 0, t]⟩
noncomputable def fb3k65 : Blk := ⟨⟨false, true, true, none⟩, [i 16, .so ⟨d0, d6, d1, d2, d3, d4⟩ 0 1 1 2]⟩
noncomputable def fb3k66 : Blk := ⟨⟨false, true, true, none⟩, [i 2048, .so ⟨d0, d3, d6, d4, d7, d4⟩ 0 1 1 2]⟩
noncomputable def fb3k67 : Blk := ⟨⟨false, true, true, none⟩, C [w 34, w 34, w 0, f, u 1, u 0, u 31, u 34, u 192, u 137, u 116, u 239, u 154, u 94, u 143, u 4, u 4, u 128, u 1, u 134, u 160, u 5, u 2, u 72, u 0, u 8, u 1, u 8, u 0, u 8, u 14, u 40, u 90, u 53, u 109, u 71, u 210, u 166] <| R 2014 (u 0) <| [.p ⟨d0, d0, d3, d7, d0, d6⟩ 0]⟩
noncomputable def fb3k68 : Blk := ⟨⟨false, true, true, none⟩, [i 1048576, .so ⟨d0, d6, d3, d1, d5, d3⟩ 0 1 1 2]⟩
noncomputable def fb3k69 : Blk := ⟨⟨false, true, true, none⟩, C [.so ⟨d0, d1, d7, d3, d6, d5⟩ 34 0 0 1, w 34, w 34, w 34, .p ⟨d0, d0, d3, d7, d1, d0⟩ 0, .p ⟨d0, d0, d3, d7, d1, d1⟩ 0] <| R 4 (f) <| []⟩
noncomputable def fb3k70 : Blk := ⟨⟨false, true, true, none⟩, [t, t, w 11821770327895803635, w 10002830118786234708, w 16771745522608266097, w 15577733363662247925, .p ⟨d0, d0, d3, d7, d0, d4⟩ 0, .p ⟨d0, d0, d3, d7, d0, d5⟩ 0, f, .p ⟨d0, d0, d3, d7, d0, d7⟩ 0, .p ⟨d0, d0, d3, d7, d1, d2⟩ 0, i 34, f, f]⟩
noncomputable def fb3k71 : Blk := ⟨⟨false, true, true, none⟩, [i 16, .so ⟨d0, d6, d6, d1, d7, d3⟩ 0 1 1 2]⟩
noncomputable def fb3k72 : Blk := ⟨⟨false, true, true, none⟩, [i 2048, .so ⟨d0, d6, d6, d3, d2, d5⟩ 0 1 1 2]⟩
noncomputable def fb3k73 : Blk := ⟨⟨false, true, true, none⟩, C [w 11, w 11, w 0, f, u 20, u 0, u 8, u 158, u 122, u 154, u 71, u 138, u 167, u 186, u 217] <| R 2037 (u 0) <| [.p ⟨d0, d0, d3, d7, d1, d6⟩ 0]⟩
noncomputable def fb3k74 : Blk := ⟨⟨false, true, true, none⟩, [i 1048576, .so ⟨d0, d6, d6, d2, d3, d4⟩ 0 1 1 2]⟩
noncomputable def fb3k75 : Blk := ⟨⟨false, true, true, none⟩, C [.so ⟨d0, d1, d7, d3, d7, d0⟩ 11 0 0 1, w 11, w 11, w 11, .p ⟨d0, d0, d3, d7, d2, d0⟩ 0, .p ⟨d0, d0, d3, d7, d2, d1⟩ 0] <| R 4 (f) <| []⟩
noncomputable def fb3k76 : Blk := ⟨⟨false, true, true, none⟩, [t, t, w 944634819486644638, w 12261026275026681946, w 6824898170549455736, w 18324348509444611745, .p ⟨d0, d0, d3, d7, d1, d4⟩ 0, .p ⟨d0, d0, d3, d7, d1, d5⟩ 0, f, .p ⟨d0, d0, d3, d7, d1, d7⟩ 0, .p ⟨d0, d0, d3, d7, d2, d2⟩ 0, i 11, f, f]⟩
noncomputable def fb3k77 : Blk := ⟨⟨false, true, true, none⟩, [i 16, .so ⟨d0, d7, d1, d4, d4, d3⟩ 0 1 1 2]⟩
noncomputable def fb3k78 : Blk := ⟨⟨false, true, true, none⟩, C [w 0, w 0, w 0, f] <| R 2048 (u 0) <| [.p ⟨d0, d0, d3, d7, d2, d6⟩ 0]⟩
noncomputable def fb3k79 : Blk := ⟨⟨false, true, true, none⟩, C [s0, w 0, w 0, w 0, .p ⟨d0, d0, d3, d7, d3, d0⟩ 0, .p ⟨d0, d0, d3, d7, d3, d1⟩ 0] <| R 4 (f) <| []⟩
noncomputable def fb3k80 : Blk := ⟨⟨false, true, true, none⟩, [t, f, w 16096892493844711767, w 464609521764292413, w 618901121709496952, w 10244074582834310459, .p ⟨d0, d0, d3, d7, d2, d4⟩ 0, .p ⟨d0, d0, d3, d7, d2, d5⟩ 0, f, .p ⟨d0, d0, d3, d7, d2, d7⟩ 0, .p ⟨d0, d0, d3, d7, d3, d2⟩ 0, i 0, f, f]⟩
noncomputable def fb3k81 : Blk := ⟨⟨false, true, true, none⟩, C [w 0, w 100000, w 2048, w 8, u 14, u 40, u 90, u 53, u 109, u 71, u 210, u 166, w 0, w 100000, w 2048, w 8] <| R 8 (u 0) <| [.p ⟨d0, d0, d3, d7, d3, d6⟩ 0, .p ⟨d0, d0, d3, d7, d3, d5⟩ 0, w 0, f, w 100000, f, w 100000]⟩
noncomputable def fb3k82 : Blk := ⟨⟨false, true, true, none⟩, [.so ⟨d0, d6, d6, d3, d5, d0⟩ 0 2 2 9, w 2, w 14854219309517125958]⟩
noncomputable def fb3k83 : Blk := ⟨⟨false, true, true, none⟩, [i 5276, i 1073741824, j 0]⟩
noncomputable def fb3k84 : Blk := ⟨⟨false, true, true, some ([i 2, w 0, .ag [u 38, u 229, u 221, u 232, u 15, u 174, u 12, u 221], i 0, w 1, .ag [u 36, u 3, u 210, u 181, u 220, u 32, u 184, u 82], i 1])⟩, []⟩
noncomputable def fb3k85 : Blk := ⟨⟨false, true, true, some ([i 2, .ag [u 38, u 229, u 221, u 232, u 15, u 174, u 12, u 221], w 0, i 0, .ag [u 36, u 3, u 210, u 181, u 220, u 32, u 184, u 82], w 1, i 1])⟩, []⟩
noncomputable def fb3k86 : Blk := ⟨⟨false, true, true, none⟩, [.so ⟨d0, d7, d1, d5, d1, d7⟩ 0 2 2 9, .m ⟨d0, d0, d3, d7, d6, d4⟩, .m ⟨d0, d0, d3, d7, d6, d5⟩, w 0, u 38, u 229, u 221, u 232, u 15, u 174, u 12, u 221, .m ⟨d0, d0, d3, d7, d6, d6⟩, s0]⟩
noncomputable def fb3k87 : Blk := ⟨⟨false, true, true, none⟩, [i 1, t, w 264439261909846019, i 1624, i 219]⟩
noncomputable def fb3k88 : Blk := ⟨⟨false, true, true, none⟩, [f, w 77, .so ⟨d0, d0, d4, d1, d1, d3⟩ 0 34 34 1, .so ⟨d0, d1, d7, d3, d6, d2⟩ 0 11 11 1, .so ⟨d0, d1, d7, d3, d0, d0⟩ 0 34 34 1, .so ⟨d0, d6, d6, d3, d2, d7⟩ 0 11 11 1, t, t, w 13853054765925153642, t, t, w 0, w 100000, w 2048, w 8, u 14, u 40, u 90, u 53, u 109, u 71, u 210, u 166, i 0]⟩
noncomputable def fb3k89 : Blk := ⟨⟨true, true, false, none⟩, [u 1, u 0, u 31, u 171, u 86, u 46, u 203, u 174, u 215, u 235, u 57, u 4, u 4, u 128, u 1, u 134, u 160, u 5, u 2, u 72, u 0, u 8, u 1, u 8, u 0, u 8, u 14, u 40, u 90, u 53, u 109, u 71, u 210, u 166]⟩
noncomputable def fb3k90 : Blk := ⟨⟨true, true, false, none⟩, [u 20, u 0, u 8, u 215, u 97, u 56, u 66, u 193, u 173, u 69, u 250]⟩
noncomputable def fb3k91 : Blk := ⟨⟨false, true, true, none⟩, [.p ⟨d0, d0, d3, d7, d0, d3⟩ 0, j 0, i 1]⟩
noncomputable def fb3k92 : Blk := ⟨⟨false, true, false, none⟩, [i 0, i 0]⟩
noncomputable def fb3k93 : Blk := ⟨⟨false, true, false, none⟩, [i 0, i 0, s0, i 0, i 0, s0, i 0, i 0, s0]⟩
noncomputable def fb3k94 : Blk := ⟨⟨false, true, false, none⟩, [w 0, w 34]⟩
noncomputable def fb3k95 : Blk := ⟨⟨false, true, true, some ([i 2, w 0, .ag [u 8, u 210, u 144, u 81, u 57, u 19, u 241, u 120], i 0, w 1, .ag [u 206, u 36, u 201, u 194, u 207, u 132, u 57, u 70], i 1])⟩, []⟩
noncomputable def fb3k96 : Blk := ⟨⟨false, true, true, some ([i 2, .ag [u 8, u 210, u 144, u 81, u 57, u 19, u 241, u 120], w 0, i 0, .ag [u 206, u 36, u 201, u 194, u 207, u 132, u 57, u 70], w 1, i 1])⟩, []⟩
noncomputable def fb3k97 : Blk := ⟨⟨false, true, true, none⟩, [.so ⟨d0, d7, d0, d1, d3, d2⟩ 0 2 2 9, .m ⟨d0, d4, d1, d7, d5, d5⟩, .m ⟨d0, d4, d1, d7, d5, d6⟩, w 0, u 8, u 210, u 144, u 81, u 57, u 19, u 241, u 120, .m ⟨d0, d4, d1, d7, d5, d7⟩, s0]⟩
noncomputable def fb3k98 : Blk := ⟨⟨false, true, false, none⟩, [w 0, w 1]⟩
noncomputable def fb3k99 : Blk := ⟨⟨false, true, false, none⟩, [w 0, w 11]⟩
noncomputable def fb3k100 : Blk := ⟨⟨true, true, false, none⟩, [u 20, u 0, u 8, u 158, u 122, u 154, u 71, u 138, u 167, u 186, u 217]⟩
noncomputable def fb3k101 : Blk := ⟨⟨false, true, false, none⟩, [w 0, w 3]⟩
noncomputable def fb3k102 : Blk := ⟨⟨false, true, false, none⟩, [w 0, u 8, u 210, u 144, u 81, u 57, u 19, u 241, u 120, w 1, u 206, u 36, u 201, u 194, u 207, u 132, u 57, u 70]⟩
noncomputable def fb3k103 : Blk := ⟨⟨false, true, false, none⟩, [i 24, w 0, w 0, s0, f, w 0, w 0, w 0, w 1, w 0, s0, u 206, u 36, u 201, u 194, u 207, u 132, u 57, u 70]⟩
noncomputable def fb3k104 : Blk := ⟨⟨false, true, false, none⟩, [w 0, u 38, u 229, u 221, u 232, u 15, u 174, u 12, u 221, w 1, u 36, u 3, u 210, u 181, u 220, u 32, u 184, u 82]⟩
noncomputable def fb3k105 : Blk := ⟨⟨false, true, false, none⟩, [i 24, w 0, w 0, s0, f, w 0, w 0, w 0, w 1, w 0, s0, u 36, u 3, u 210, u 181, u 220, u 32, u 184, u 82]⟩
noncomputable def fb3k106 : Blk := ⟨⟨false, true, false, none⟩, [w 0, w 2]⟩
noncomputable def fb3k107 : Blk := ⟨⟨false, true, true, none⟩, R 8 (u 0) <| C [i 0, f] <| R 8 (u 0) <| C [i 0, f] <| R 8 (u 0) <| C [i 0, f] <| R 8 (u 0) <| C [i 0, f] <| R 8 (u 0) <| C [i 0, f] <| R 8 (u 0) <| C [i 0, f] <| R 8 (u 0) <| C [i 0, f] <| R 8 (u 0) <| C [i 0, f] <| R 8 (u 0) <| C [i 0, f] <| R 8 (u 0) <| C [i 0, f] <| R 8 (u 0) <| C [i 0, f] <| R 8 (u 0) <| C [i 0, f] <| R 8 (u 0) <| C [i 0, f] <| R 8 (u 0) <| C [i 0, f] <| R 8 (u 0) <| C [i 0, f] <| R 8 (u 0) <| C [i 0, f, u 8, u 210, u 144, u 81, u 57, u 19, u 241, u 120, i 0, t] <| R 8 (u 0) <| C [i 0, f] <| R 8 (u 0) <| C [i 0, f] <| R 8 (u 0) <| C [i 0, f] <| R 8 (u 0) <| C [i 0, f] <| R 8 (u 0) <| C [i 0, f] <| R 8 (u 0) <| C [i 0, f] <| R 8 (u 0) <| C [i 0, f] <| R 8 (u 0) <| C [i 0, f] <| R 8 (u 0) <| C [i 0, f] <| R 8 (u 0) <| C [i 0, f] <| R 8 (u 0) <| C [i 0, f] <| R 8 (u 0) <| C [i 0, f] <| R 8 (u 0) <| C [i 0, f, u 14, u 40, u 90, u 53, u 109, u 71, u 210, u 166, i 0, t] <| R 8 (u 0) <| C [i 0, f] <| R 8 (u 0) <| C [i 0, f, u 206, u 36, u 201, u 194, u 207, u 132, u 57, u 70, i 0, t] <| R 8 (u 0) <| C [i 0, f] <| R 8 (u 0) <| C [i 0, f] <| R 8 (u 0) <| C [i 0, f] <| R 8 (u 0) <| C [i 0, f] <| R 8 (u 0) <| C [i 0, f] <| R 8 (u 0) <| C [i 0, f] <| R 8 (u 0) <| C [i 0, f] <| R 8 (u 0) <| C [i 0, f] <| R 8 (u 0) <| C [i 0, f] <| R 8 (u 0) <| C [i 0, f] <| R 8 (u 0) <| C [i 0, f] <| R 8 (u 0) <| C [i 0, f] <| R 8 (u 0) <| C [i 0, f] <| R 8 (u 0) <| C [i 0, f] <| R 8 (u 0) <| C [i 0, f] <| R 8 (u 0) <| C [i 0, f] <| R 8 (u 0) <| C [i 0, f] <| R 8 (u 0) <| C [i 0, f] <| R 8 (u 0) <| C [i 0, f] <| R 8 (u 0) <| C [i 0, f] <| R 8 (u 0) <| C [i 0, f] <| R 8 (u 0) <| C [i 0, f] <| R 8 (u 0) <| C [i 0, f] <| R 8 (u 0) <| C [i 0, f] <| R 8 (u 0) <| C [i 0, f] <| R 8 (u 0) <| C [i 0, f] <| R 8 (u 0) <| C [i 0, f] <| R 8 (u 0) <| C [i 0, f] <| R 8 (u 0) <| C [i 0, f] <| R 8 (u 0) <| [i 0, f]⟩
noncomputable def fb3P0 : List PB := [⟨⟨d0, d0, d0, d0, d6, d0⟩, fb3k0⟩, ⟨⟨d0, d0, d0, d0, d6, d1⟩, fb3k1⟩, ⟨⟨d0, d0, d0, d0, d6, d3⟩, fb3k2⟩, ⟨⟨d0, d0, d0, d0, d6, d4⟩, fb3k3⟩, ⟨⟨d0, d0, d0, d0, d6, d5⟩, fb3k4⟩, ⟨⟨d0, d0, d0, d0, d6, d6⟩, fb3k5⟩, ⟨⟨d0, d0, d0, d0, d7, d0⟩, fb3k6⟩, ⟨⟨d0, d0, d0, d1, d2, d0⟩, fb3k7⟩, ⟨⟨d0, d0, d0, d1, d2, d1⟩, fb3k8⟩, ⟨⟨d0, d0, d0, d1, d2, d2⟩, fb3k9⟩, ⟨⟨d0, d0, d0, d1, d2, d3⟩, fb3k10⟩, ⟨⟨d0, d0, d0, d1, d2, d4⟩, fb3k11⟩, ⟨⟨d0, d0, d0, d1, d2, d6⟩, fb3k12⟩, ⟨⟨d0, d0, d0, d1, d2, d7⟩, fb3k13⟩, ⟨⟨d0, d0, d0, d1, d3, d0⟩, fb3k14⟩, ⟨⟨d0, d0, d0, d1, d3, d1⟩, fb3k15⟩, ⟨⟨d0, d0, d0, d1, d3, d2⟩, fb3k9⟩, ⟨⟨d0, d0, d0, d1, d3, d3⟩, fb3k10⟩, ⟨⟨d0, d0, d0, d1, d3, d4⟩, fb3k16⟩, ⟨⟨d0, d0, d0, d1, d3, d6⟩, fb3k12⟩, ⟨⟨d0, d0, d0, d1, d3, d7⟩, fb3k17⟩, ⟨⟨d0, d0, d0, d1, d4, d0⟩, fb3k18⟩, ⟨⟨d0, d0, d0, d1, d4, d1⟩, fb3k15⟩, ⟨⟨d0, d0, d0, d1, d4, d2⟩, fb3k9⟩, ⟨⟨d0, d0, d0, d1, d4, d6⟩, fb3k12⟩, ⟨⟨d0, d0, d0, d1, d4, d7⟩, fb3k19⟩, ⟨⟨d0, d0, d0, d1, d5, d0⟩, fb3k20⟩, ⟨⟨d0, d0, d0, d1, d5, d2⟩, fb3k21⟩, ⟨⟨d0, d0, d0, d1, d5, d3⟩, fb3k22⟩, ⟨⟨d0, d0, d0, d1, d5, d4⟩, fb3k23⟩, ⟨⟨d0, d0, d0, d1, d5, d7⟩, fb3k24⟩, ⟨⟨d0, d0, d0, d1, d6, d0⟩, fb3k25⟩, ⟨⟨d0, d0, d0, d1, d6, d1⟩, fb3k26⟩, ⟨⟨d0, d0, d0, d1, d6, d2⟩, fb3k27⟩, ⟨⟨d0, d0, d0, d2, d0, d4⟩, fb3k28⟩, ⟨⟨d0, d0, d0, d2, d0, d5⟩, fb3k29⟩, ⟨⟨d0, d0, d0, d3, d1, d5⟩, fb3k30⟩, ⟨⟨d0, d0, d0, d3, d3, d0⟩, fb3k31⟩, ⟨⟨d0, d0, d1, d7, d4, d5⟩, fb3k32⟩, ⟨⟨d0, d0, d2, d0, d4, d4⟩, fb3k33⟩, ⟨⟨d0, d0, d3, d5, d1, d5⟩, fb3k34⟩, ⟨⟨d0, d0, d3, d5, d4, d7⟩, fb3k35⟩, ⟨⟨d0, d0, d3, d5, d5, d2⟩, fb3k36⟩]
noncomputable def fb3P : List PB := fb3P0 ++ []
noncomputable def fb3Q0 : List PB := [⟨⟨d0, d0, d0, d0, d6, d0⟩, fb3k0⟩, ⟨⟨d0, d0, d0, d0, d6, d1⟩, fb3k37⟩, ⟨⟨d0, d0, d0, d0, d6, d3⟩, fb3k38⟩, ⟨⟨d0, d0, d0, d0, d6, d4⟩, fb3k39⟩, ⟨⟨d0, d0, d0, d0, d6, d5⟩, fb3k40⟩, ⟨⟨d0, d0, d0, d0, d6, d6⟩, fb3k5⟩, ⟨⟨d0, d0, d0, d0, d7, d0⟩, fb3k6⟩, ⟨⟨d0, d0, d0, d1, d2, d0⟩, fb3k41⟩, ⟨⟨d0, d0, d0, d1, d2, d1⟩, fb3k42⟩, ⟨⟨d0, d0, d0, d1, d2, d2⟩, fb3k43⟩, ⟨⟨d0, d0, d0, d1, d2, d3⟩, fb3k44⟩, ⟨⟨d0, d0, d0, d1, d2, d4⟩, fb3k45⟩, ⟨⟨d0, d0, d0, d1, d2, d6⟩, fb3k12⟩, ⟨⟨d0, d0, d0, d1, d2, d7⟩, fb3k13⟩, ⟨⟨d0, d0, d0, d1, d3, d0⟩, fb3k46⟩, ⟨⟨d0, d0, d0, d1, d3, d1⟩, fb3k47⟩, ⟨⟨d0, d0, d0, d1, d3, d2⟩, fb3k48⟩, ⟨⟨d0, d0, d0, d1, d3, d3⟩, fb3k49⟩, ⟨⟨d0, d0, d0, d1, d3, d4⟩, fb3k50⟩, ⟨⟨d0, d0, d0, d1, d3, d6⟩, fb3k12⟩, ⟨⟨d0, d0, d0, d1, d3, d7⟩, fb3k51⟩, ⟨⟨d0, d0, d0, d1, d4, d0⟩, fb3k52⟩, ⟨⟨d0, d0, d0, d1, d4, d1⟩, fb3k53⟩, ⟨⟨d0, d0, d0, d1, d4, d2⟩, fb3k54⟩, ⟨⟨d0, d0, d0, d1, d4, d6⟩, fb3k12⟩, ⟨⟨d0, d0, d0, d1, d4, d7⟩, fb3k19⟩, ⟨⟨d0, d0, d0, d1, d5, d0⟩, fb3k55⟩, ⟨⟨d0, d0, d0, d1, d5, d2⟩, fb3k21⟩, ⟨⟨d0, d0, d0, d1, d5, d3⟩, fb3k22⟩, ⟨⟨d0, d0, d0, d1, d5, d4⟩, fb3k56⟩, ⟨⟨d0, d0, d0, d1, d5, d7⟩, fb3k24⟩, ⟨⟨d0, d0, d0, d1, d6, d0⟩, fb3k57⟩, ⟨⟨d0, d0, d0, d1, d6, d1⟩, fb3k58⟩, ⟨⟨d0, d0, d0, d1, d6, d2⟩, fb3k59⟩, ⟨⟨d0, d0, d0, d2, d0, d4⟩, fb3k28⟩, ⟨⟨d0, d0, d0, d2, d0, d5⟩, fb3k60⟩, ⟨⟨d0, d0, d0, d3, d1, d5⟩, fb3k61⟩, ⟨⟨d0, d0, d0, d3, d3, d0⟩, fb3k31⟩, ⟨⟨d0, d0, d1, d7, d4, d5⟩, fb3k32⟩, ⟨⟨d0, d0, d2, d0, d4, d4⟩, fb3k62⟩, ⟨⟨d0, d0, d3, d5, d1, d5⟩, fb3k34⟩, ⟨⟨d0, d0, d3, d5, d4, d7⟩, fb3k35⟩, ⟨⟨d0, d0, d3, d7, d0, d3⟩, fb3k63⟩, ⟨⟨d0, d0, d3, d7, d0, d4⟩, fb3k64⟩, ⟨⟨d0, d0, d3, d7, d0, d5⟩, fb3k65⟩, ⟨⟨d0, d0, d3, d7, d0, d6⟩, fb3k66⟩, ⟨⟨d0, d0, d3, d7, d0, d7⟩, fb3k67⟩, ⟨⟨d0, d0, d3, d7, d1, d0⟩, fb3k68⟩, ⟨⟨d0, d0, d3, d7, d1, d1⟩, fb3k12⟩, ⟨⟨d0, d0, d3, d7, d1, d2⟩, fb3k69⟩, ⟨⟨d0, d0, d3, d7, d1, d3⟩, fb3k70⟩, ⟨⟨d0, d0, d3, d7, d1, d4⟩, fb3k53⟩, ⟨⟨d0, d0, d3, d7, d1, d5⟩, fb3k71⟩, ⟨⟨d0, d0, d3, d7, d1, d6⟩, fb3k72⟩, ⟨⟨d0, d0, d3, d7, d1, d7⟩, fb3k73⟩, ⟨⟨d0, d0, d3, d7, d2, d0⟩, fb3k74⟩, ⟨⟨d0, d0, d3, d7, d2, d1⟩, fb3k12⟩, ⟨⟨d0, d0, d3, d7, d2, d2⟩, fb3k75⟩, ⟨⟨d0, d0, d3, d7, d2, d3⟩, fb3k76⟩, ⟨⟨d0, d0, d3, d7, d2, d4⟩, fb3k64⟩, ⟨⟨d0, d0, d3, d7, d2, d5⟩, fb3k77⟩, ⟨⟨d0, d0, d3, d7, d2, d6⟩, fb3k10⟩, ⟨⟨d0, d0, d3, d7, d2, d7⟩, fb3k78⟩, ⟨⟨d0, d0, d3, d7, d3, d0⟩, fb3k12⟩, ⟨⟨d0, d0, d3, d7, d3, d1⟩, fb3k12⟩, ⟨⟨d0, d0, d3, d7, d3, d2⟩, fb3k79⟩, ⟨⟨d0, d0, d3, d7, d3, d3⟩, fb3k80⟩, ⟨⟨d0, d0, d3, d7, d3, d5⟩, fb3k21⟩, ⟨⟨d0, d0, d3, d7, d3, d6⟩, fb3k22⟩, ⟨⟨d0, d0, d3, d7, d3, d7⟩, fb3k81⟩, ⟨⟨d0, d0, d3, d7, d4, d3⟩, fb3k82⟩, ⟨⟨d0, d0, d3, d7, d4, d4⟩, fb3k58⟩, ⟨⟨d0, d0, d3, d7, d4, d5⟩, fb3k83⟩, ⟨⟨d0, d0, d3, d7, d6, d4⟩, fb3k84⟩, ⟨⟨d0, d0, d3, d7, d6, d5⟩, fb3k85⟩, ⟨⟨d0, d0, d3, d7, d6, d6⟩, fb3k33⟩, ⟨⟨d0, d0, d3, d7, d6, d7⟩, fb3k86⟩, ⟨⟨d0, d0, d3, d7, d7, d0⟩, fb3k87⟩, ⟨⟨d0, d0, d4, d1, d0, d0⟩, fb3k88⟩, ⟨⟨d0, d0, d4, d1, d1, d3⟩, fb3k89⟩, ⟨⟨d0, d1, d7, d3, d0, d0⟩, fb3k31⟩, ⟨⟨d0, d1, d7, d3, d6, d2⟩, fb3k90⟩, ⟨⟨d0, d1, d7, d3, d6, d5⟩, fb3k89⟩, ⟨⟨d0, d1, d7, d3, d7, d0⟩, fb3k90⟩, ⟨⟨d0, d2, d1, d1, d7, d5⟩, fb3k91⟩, ⟨⟨d0, d2, d2, d2, d0, d6⟩, fb3k92⟩, ⟨⟨d0, d2, d2, d7, d5, d7⟩, fb3k93⟩, ⟨⟨d0, d3, d6, d4, d7, d4⟩, fb3k94⟩, ⟨⟨d0, d4, d1, d7, d5, d5⟩, fb3k95⟩, ⟨⟨d0, d4, d1, d7, d5, d6⟩, fb3k96⟩, ⟨⟨d0, d4, d1, d7, d5, d7⟩, fb3k33⟩, ⟨⟨d0, d4, d1, d7, d6, d0⟩, fb3k97⟩, ⟨⟨d0, d4, d1, d7, d6, d6⟩, fb3k98⟩, ⟨⟨d0, d4, d2, d2, d1, d5⟩, fb3k94⟩, ⟨⟨d0, d4, d2, d2, d1, d7⟩, fb3k89⟩, ⟨⟨d0, d4, d4, d5, d2, d5⟩, fb3k98⟩, ⟨⟨d0, d4, d4, d6, d1, d5⟩, fb3k99⟩, ⟨⟨d0, d4, d4, d6, d1, d7⟩, fb3k90⟩, ⟨⟨d0, d4, d4, d6, d3, d7⟩, fb3k100⟩, ⟨⟨d0, d4, d4, d6, d4, d4⟩, fb3k100⟩]
noncomputable def fb3Q1 : List PB := [⟨⟨d0, d6, d1, d2, d3, d4⟩, fb3k101⟩, ⟨⟨d0, d6, d3, d1, d5, d3⟩, fb3k94⟩, ⟨⟨d0, d6, d5, d1, d7, d0⟩, fb3k92⟩, ⟨⟨d0, d6, d6, d1, d7, d3⟩, fb3k98⟩, ⟨⟨d0, d6, d6, d2, d3, d4⟩, fb3k99⟩, ⟨⟨d0, d6, d6, d3, d2, d5⟩, fb3k99⟩, ⟨⟨d0, d6, d6, d3, d2, d7⟩, fb3k100⟩, ⟨⟨d0, d6, d6, d3, d5, d0⟩, fb3k102⟩, ⟨⟨d0, d6, d6, d3, d5, d3⟩, fb3k103⟩, ⟨⟨d0, d7, d0, d1, d0, d4⟩, fb3k104⟩, ⟨⟨d0, d7, d0, d1, d0, d7⟩, fb3k105⟩, ⟨⟨d0, d7, d0, d1, d3, d2⟩, fb3k102⟩, ⟨⟨d0, d7, d1, d4, d4, d3⟩, fb3k98⟩, ⟨⟨d0, d7, d1, d5, d1, d7⟩, fb3k104⟩, ⟨⟨d0, d7, d3, d1, d1, d0⟩, fb3k106⟩, ⟨⟨d0, d7, d3, d4, d2, d4⟩, fb3k107⟩]
noncomputable def fb3Q : List PB := fb3Q0 ++ fb3Q1 ++ []
noncomputable def fb3 : SM := ⟨[.p ⟨d0, d0, d0, d0, d6, d5⟩ 0, .ag [i 18, i 0, i 0, i 0, i 0, w 0, s0]], ⟨d0, d0, d3, d6, d0, d2⟩, fb3P, .ag [i 18, i 10, w 0, s0, f, i 0], ⟨d0, d7, d3, d7, d0, d0⟩, fb3Q⟩
end Go.Proofs.YthknbcbkibbncaaGreat
