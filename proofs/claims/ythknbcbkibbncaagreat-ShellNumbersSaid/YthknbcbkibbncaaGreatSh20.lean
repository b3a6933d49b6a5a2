/- DERIVED. Functions taken whole, level upon level: slices.Replace; calls that were answered once, of numbers alone, or with memory. -/
import Derived.Test.YthknbcbkibbncaaGreatSh17
import Derived.Test.YthknbcbkibbncaaGreatSh18
import Derived.Test.YthknbcbkibbncaaGreatSh19
set_option linter.all false
set_option linter.unusedVariables false
namespace Go.Proofs.YthknbcbkibbncaaGreat
namespace Ev
open Go.RowKit
/-- a function taken whole: plain, quick; both agree, are local, are the same in more memory -/
structure OB where
  p : List AV → M AV
  q : List AV → Kq.M AV
  hr : ∀ l, Kq.Ref Eq (q l) (p l)
  hl : ∀ l, Loc (p l)
  hs : ∀ l, Sim (p l)
noncomputable def findB (L : List (Nat × OB)) (f : Nat) : Option OB := match L with
  | [] => none
  | x :: L => match Nat.beq f x.1 with
    | true => some x.2
    | false => findB L f
noncomputable def ownF (L : List (Nat × OB)) (k : Nat) (l : List AV) : M AV := match findB L k with
  | none => M.no
  | some b => b.p l
noncomputable def ownQ (L : List (Nat × OB)) (k : Nat) (l : List AV) : Kq.M AV := match findB L k with
  | none => Kq.M.no
  | some b => b.q l
noncomputable def owL (L : List (Nat × OB)) (f : Nat) : Option Nat := match L with
  | [] => none
  | x :: L => match Nat.beq f x.1 with
    | true => some f
    | false => owL L f
theorem owL_eq : ∀ {L : List (Nat × OB)} {f k : Nat}, owL L f = some k → k = f ∧ ∃ b, findB L f = some b
  | [], _, _, h => by simp [owL] at h
  | x :: L, f, k, h => by
    simp only [owL] at h
    simp only [findB]
    cases hb : Nat.beq f x.1 with
    | true =>
      rw [hb] at h
      cases h
      exact ⟨rfl, _, rfl⟩
    | false =>
      rw [hb] at h
      exact owL_eq h
/-- a level: which functions are taken whole, and that each does what it should -/
structure Lv where
  L : List (Nat × OB)
  ok : ∀ f b, findB L f = some b → OwnOk Tryz.prog (fun _ => b.p) 0 f
noncomputable def Lv.q (v : Lv) : Nat → List AV → Kq.M AV := ownQ v.L
noncomputable def Lv.p (v : Lv) : Nat → List AV → M AV := ownF v.L
noncomputable def Lv.x (v : Lv) : Nat → Option PF := XW (owL v.L)
theorem Lv.hr (v : Lv) (k : Nat) (l : List AV) : Kq.Ref Eq (v.q k l) (v.p k l) := by
  unfold Lv.q Lv.p ownQ ownF
  cases findB v.L k with
  | none => exact Kq.Ref.no
  | some b => exact b.hr l
theorem Lv.hl (v : Lv) (k : Nat) (l : List AV) : Loc (v.p k l) := by
  unfold Lv.p ownF
  cases findB v.L k with
  | none => exact Loc.no
  | some b => exact b.hl l
theorem Lv.hs (v : Lv) (k : Nat) (l : List AV) : Sim (v.p k l) := by
  unfold Lv.p ownF
  cases findB v.L k with
  | none => exact Sim.no
  | some b => exact b.hs l
theorem Lv.tab (v : Lv) : TabOk Tryz.prog YT v.p v.x := tabOk v.p (fun f k h => by
  obtain ⟨rfl, b, hb⟩ := owL_eq h
  have := v.ok k b hb
  intro l s w s' hw
  refine this l s w s' ?_
  have e : v.p k l = b.p l := by unfold Lv.p ownF; rw [hb]
  show b.p l s = _
  rw [← e]
  exact hw)
def Lv.nil : Lv := ⟨[], fun f b h => by cases h⟩
def Lv.push (v : Lv) (f : Nat) (b : OB) (h : OwnOk Tryz.prog (fun _ => b.p) 0 f) : Lv := ⟨(f, b) :: v.L, fun g c hc => by
  simp only [findB] at hc
  cases hb : Nat.beq g f with
  | true =>
    rw [hb] at hc
    cases hc
    rw [Nat.eq_of_beq_eq_true hb]
    exact h
  | false =>
    rw [hb] at hc
    exact v.ok g c hc⟩
noncomputable def OB.repl : OB := ⟨replF 0, Kq.replQ 0, Kq.Ref.replQ 0, Loc.replF 0, Sim.replF 0⟩
noncomputable def OB.memo (t : List Memo) : OB := ⟨memoF t, Kq.memoQ t, Kq.Ref.memoQ t, Loc.memoF t, Sim.memoF t⟩
/-- asked with such memory, else walked -/
noncomputable def swF (t : List SM) (G : List AV → M AV) (l : List AV) : M AV := fun s => match s.tr with
  | true => G l s
  | false => match pickS t l s.n with
    | none => G l s
    | some _ => smF t l s
noncomputable def Kq.swQ (t : List SM) (G : List AV → Kq.M AV) (l : List AV) : Kq.M AV := fun s k => match s.tr with
  | true => G l s k
  | false => match pickS t l s.n with
    | none => G l s k
    | some _ => Kq.smQ t l s k
theorem swF_eq {t : List SM} {G : List AV → M AV} {l : List AV} (s : S) : (swF t G l s = G l s ∧ ∀ u : S, u.tr = s.tr → u.n = s.n → swF t G l u = G l u) ∨ (swF t G l s = smF t l s ∧ ∀ u : S, u.tr = s.tr → u.n = s.n → swF t G l u = smF t l u) := by
  unfold swF
  cases htr : s.tr with
  | true => exact .inl ⟨rfl, fun u hu _ => by rw [hu]⟩
  | false =>
    cases hp : pickS t l s.n with
    | none => exact .inl ⟨rfl, fun u hu hn => by rw [hu, hn]; simp only [hp]⟩
    | some m => exact .inr ⟨rfl, fun u hu hn => by rw [hu, hn]; simp only [hp]⟩
theorem Loc.swF {t : List SM} {G : List AV → M AV} (hG : ∀ l, Loc (G l)) (l : List AV) : Loc (Ev.swF t G l) := by
  intro s a s' h
  rcases swF_eq (t := t) (G := G) (l := l) s with ⟨e1, e2⟩ | ⟨e1, e2⟩
  · rw [e1] at h
    obtain ⟨a1, a2, a3, a4⟩ := hG l s a s' h
    refine ⟨a1, a2, a3, fun hf => ?_⟩
    obtain ⟨R, W, r⟩ := a4 hf
    exact ⟨R, W, ⟨r.log, r.off, fun u u1 u2 u3 => by rw [e2 u u1 u2]; exact r.also u u1 u2 u3⟩⟩
  · rw [e1] at h
    obtain ⟨a1, a2, a3, a4⟩ := Loc.smF t l s a s' h
    refine ⟨a1, a2, a3, fun hf => ?_⟩
    obtain ⟨R, W, r⟩ := a4 hf
    exact ⟨R, W, ⟨r.log, r.off, fun u u1 u2 u3 => by rw [e2 u u1 u2]; exact r.also u u1 u2 u3⟩⟩
theorem Sim.swF {t : List SM} {G : List AV → M AV} (hG : ∀ l, Sim (G l)) (l : List AV) : Sim (Ev.swF t G l) := by
  intro s a s' h
  rcases swF_eq (t := t) (G := G) (l := l) s with ⟨e1, e2⟩ | ⟨e1, e2⟩
  · rw [e1] at h
    obtain ⟨a1, a2⟩ := hG l s a s' h
    exact ⟨a1, fun F N hd hb hN => by rw [e2 (wide F s) rfl rfl]; exact a2 F N hd hb hN⟩
  · rw [e1] at h
    obtain ⟨a1, a2⟩ := Sim.smF t l s a s' h
    exact ⟨a1, fun F N hd hb hN => by rw [e2 (wide F s) rfl rfl]; exact a2 F N hd hb hN⟩
theorem Kq.Ref.swQ {t : List SM} {G : List AV → Kq.M AV} {G' : List AV → Ev.M AV} (hG : ∀ l, Kq.Ref Eq (G l) (G' l)) (l : List AV) : Kq.Ref Eq (Kq.swQ t G l) (Ev.swF t G' l) := by
  intro u s k hs hk
  unfold Kq.swQ at hk
  unfold Ev.swF
  rw [← hs.tr, ← hs.n]
  cases htr : u.tr with
  | true => rw [htr] at hk; exact hG l u s k hs hk
  | false =>
    rw [htr] at hk
    simp only at hk ⊢
    cases hp : pickS t l u.n with
    | none => rw [hp] at hk; exact hG l u s k hs hk
    | some m => rw [hp] at hk; exact Kq.Ref.smQ t l u s k hs hk
noncomputable def OB.sw (v : Lv) (n f : Nat) (t : List SM) : OB := ⟨swF t fun l => (run v.p v.x n).fn f l, Kq.swQ t fun l => (Kq.runQ v.q v.x n).fn f l, Kq.Ref.swQ fun l => Kq.runQ_ok v.hr v.x n f l, Loc.swF fun l => (Loc.run v.hl v.x n).fn f l, Sim.swF fun l => (Sim.run v.hs v.x n).fn f l⟩
theorem Lv.memo_ok (v : Lv) {n f : Nat} {t : List Memo} (h : ∀ m ∈ t, scal m.r = true ∧ m.a.all scal = true ∧ Kq.askR v.q v.x n f m = true) : OwnOk Tryz.prog (fun _ => (OB.memo t).p) 0 f :=
  Ev.memo_ok tyOk mixOk v.hl v.tab (fun m hm => ⟨(h m hm).1, (h m hm).2.1, n, Kq.askR_ok v.hr (h m hm).2.2⟩) rfl
theorem Lv.sw_ok (v : Lv) {n f : Nat} {t : List SM} (h : ∀ m ∈ t, Kq.askS v.q v.x n f m = true) : OwnOk Tryz.prog (fun _ => (OB.sw v n f t).p) 0 f := by
  have h1 : OwnOk Tryz.prog (fun _ => smF t) 0 f := sm_ok tyOk mixOk v.hl v.hs v.tab (fun m hm => ⟨n, Kq.askS_ok v.hr (h m hm)⟩) rfl
  intro l s w s' hw
  change swF t (fun l => (run v.p v.x n).fn f l) l s = some (w, s') at hw
  rcases swF_eq (t := t) (G := fun l => (run v.p v.x n).fn f l) (l := l) s with ⟨e1, _⟩ | ⟨e1, _⟩
  · rw [e1] at hw
    intro β D B W ww L hL hr hfr
    exact (run_ok tyOk mixOk v.hl v.tab n n (Nat.le_refl _) f l s w s' hw β D B W ww L hL hr hfr).2
  · rw [e1] at hw
    exact h1 l s w s' hw
theorem Lv.closed (v : Lv) {n f : Nat} (h : Kq.ask v.q v.x n f = true) (w : World) :
    Calls Tryz.prog f #[] w fun e w' => e = .returned (.bool true) ∧ Below w.heap.size w w' := by
  obtain ⟨s', hs⟩ := Kq.ask_ok v.hr h
  exact closed_ok tyOk mixOk v.hl v.tab hs w
/-- slices.Replace alone -/
noncomputable def lv0 : Lv := Lv.nil.push 383 OB.repl replOk
/-- numbers -/
def nU (n : Nat) : AV := .i .u64 (.ofNat n)
end Ev
end Go.Proofs.YthknbcbkibbncaaGreat
