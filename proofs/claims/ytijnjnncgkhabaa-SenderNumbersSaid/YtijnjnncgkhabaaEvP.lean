/- DERIVED. The evaluator's operations against the model's: values, places, loads, stores. -/
import Derived.Test.YtijnjnncgkhabaaEvO
import Derived.Test.YtijnjnncgkhabaaEvW
import Derived.Laws.Slices
namespace Go.Proofs.Ytijnjnncgkhabaa
namespace Ev
open Go.RowKit

section
variable {P : Program} {Y : Ty} {β : Id → CA} {D : Id → Prop} {B N : Nat} {W w : World} {s s' : S} {e : Env} {a : Act}

theorem gives_pure (hr : Rel β D B W s.h w) {x v : AV} {V : Value} (h : M.pure x s = some (v, s')) (hv : VR β D x V) {m : Sem Value} (hm : m.run P w = .ok V w) : Gives P β D B W s s' v m w := by
  obtain ⟨rfl, rfl⟩ := pure_some h
  exact Gives.same hr hv hm

theorem pick_ok (hr : Rel β D B W s.h w) {c x y v : AV} {C X Z : Value} (h : pickF c x y s = some (v, s')) (hc : VR β D c C) (hx : VR β D x X) (hy : VR β D y Z) :
    Gives P β D B W s s' v (do pure (if ← asBool C then X else Z)) w := by
  cases c <;> first | (simp only [pickF, M.no] at h; cases h; done) | skip
  rename_i t
  simp only [VR] at hc
  subst hc
  cases t
  · exact gives_pure hr h hy (by simp [asBool])
  · exact gives_pure hr h hx (by simp [asBool])
theorem fad_ok (hY : TyOk P Y) (hr : Rel β D B W s.h w) {t : TypeId} {fs : Array Field} {j : Nat} {f : Field} {m : Nat} (ht : under Y t = some (.struct fs)) (hj : fs.toList[j]? = some f) (hm : sizeT Y f.type = some m) (hm0 : 1 ≤ m)
    {x v : AV} {X : Value} (h : fadF f.offset x s = some (v, s')) (hx : VR β D x X) : Gives P β D B W s s' v (Instr.fieldAt t X j) w := by
  cases x <;> first | (simp only [fadF, M.no] at h; cases h; done) | skip
  rename_i id off
  simp only [VR] at hx
  obtain ⟨hd, rfl⟩ := hx
  have hj' : fs[j]? = some f := by simpa using hj
  have h0 : ¬ m = 0 := by omega
  refine gives_pure hr h (V := .pointer (some ⟨(β id).blk, (β id).base + (off + f.offset), none⟩)) ?_ ?_
  · simp only [VR]; exact ⟨hd, rfl⟩
  · simp [Instr.fieldAt, run_underlying (under_ok hY ht), hj', Instr.sureAddr, fieldPlace, size_ok hY hm, h0, Addr.add]
    split <;> simp_all [Nat.add_assoc]
theorem ext_ok (hr : Rel β D B W s.h w) {x v : AV} {X : Value} {j : Nat} (h : extF x j s = some (v, s')) (hx : VR β D x X) : Gives P β D B W s s' v (Instr.extract X j) w := by
  cases x <;> first | (simp only [extF, M.no] at h; cases h; done) | skip
  rename_i vs
  simp only [VR] at hx
  obtain ⟨C, rfl, hc⟩ := hx
  obtain ⟨u, hu, h⟩ := ofO_some h
  obtain ⟨U, hU, hv⟩ := hc.get j u hu
  exact gives_pure hr h hv (by simp [Instr.extract, hU])
theorem cvi_ok (hr : Rel β D B W s.h w) {x v : AV} {X : Value} {k : IntKind} (h : cviF k x s = some (v, s')) (hx : VR β D x X) :
    ∃ k' n, X = .int k' n ∧ Gives P β D B W s s' v (Conv.intToInt k n) w := by
  cases x <;> first | (simp only [cviF, M.no] at h; cases h; done) | skip
  rename_i k' n
  simp only [VR] at hx
  subst hx
  exact ⟨k', n, rfl, gives_pure hr h (V := .int k (k.wrap n)) (by simp [VR, wrap_i]) rfl⟩

theorem ld_ok (hY : TyOk P Y) (hr : Rel β D B W s.h w) {t : TypeId} {d : TypeDesc} (ht : under Y t = some d) (hd : isAggD d = false) {x v : AV} {X : Value} (h : ldF x s = some (v, s')) (hx : VR β D x X) :
    Gives P β D B W s s' v (Instr.loadAt t X) w := by
  cases x <;> first | (simp only [ldF, M.no] at h; cases h; done) | skip
  rename_i id off
  simp only [VR] at hx
  obtain ⟨did, rfl⟩ := hx
  obtain ⟨l, u, h1, h2⟩ := bind_some h
  obtain ⟨g1, g2, g3, Vs, g4, g5, g6, g7, g8⟩ := rd_ok hr.hr h1
  match l, h2, g3, g4 with
  | [y], h2, g3, g4 =>
    obtain ⟨rfl, rfl⟩ := pure_some h2
    obtain ⟨V, hV, hv⟩ := g4.get 0 v (by simp)
    have hagg : (isAgg t).run P w = .ok false w := by
      unfold isAgg
      rw [Sem.run_bind, run_underlying (under_ok hY ht)]
      cases d <;> simp_all [isAggD]
    have hc := g6 0 V hV
    refine ⟨β, D, w, V, ?_, ⟨by rw [g1]; exact hr.hr, hr.bel⟩, hv, ?_⟩
    · rw [g2]; exact Ext.refl _ _ _
    · simp only [Nat.add_zero] at hc
      simp [Instr.loadAt, Instr.sureAddr, loadVar, hagg, run_load, hc]
theorem ldn_ok (hY : TyOk P Y) (hr : Rel β D B W s.h w) {t : TypeId} {d : TypeDesc} {m : Nat} (ht : under Y t = some d) (hd : isAggD d = true) (hm : sizeT Y t = some m) {x v : AV} {X : Value} (h : ldnF m x s = some (v, s')) (hx : VR β D x X) :
    Gives P β D B W s s' v (Instr.loadAt t X) w := by
  cases x <;> first | (simp only [ldnF, M.no] at h; cases h; done) | skip
  rename_i id off
  simp only [VR] at hx
  obtain ⟨did, rfl⟩ := hx
  obtain ⟨l, u, h1, h2⟩ := bind_some h
  obtain ⟨g1, g2, g3, Vs, g4, g5, g6, g7, g8⟩ := rd_ok hr.hr h1
  obtain ⟨rfl, rfl⟩ := pure_some h2
  have hagg : (isAgg t).run P w = .ok true w := by
    unfold isAgg
    rw [Sem.run_bind, run_underlying (under_ok hY ht)]
    cases d <;> simp_all [isAggD]
  have hl := run_loadCells_list (P := P) w ⟨(β id).blk, (β id).base + off, none⟩ Vs (fun j V hV => by
    have := g6 j V hV
    have e : (⟨(β id).blk, (β id).base + off, none⟩ : Addr).add j = ⟨(β id).blk, (β id).base + off + j, none⟩ := by unfold Addr.add; split <;> simp_all
    rw [e]; exact this)
  rw [g5] at hl
  refine ⟨β, D, w, .agg Vs.toArray, ?_, ⟨by rw [g1]; exact hr.hr, hr.bel⟩, ?_, ?_⟩
  · rw [g2]; exact Ext.refl _ _ _
  · simp only [VR]; exact ⟨Vs, rfl, g4, g8⟩
  · simp [Instr.loadAt, Instr.sureAddr, loadVar, hagg, size_ok hY hm, hl]
theorem st_ok (hY : TyOk P Y) (hr : Rel β D B W s.h w) {t : TypeId} {m : Nat} (hm : sizeT Y t = some m) {x y v : AV} {X Z : Value} (h : stF m x y s = some (v, s')) (hx : VR β D x X) (hy : VR β D y Z) :
    ∃ w', Rel β D B W s'.h w' ∧ v = und ∧ s'.n = s.n ∧ (Instr.storeAt t X Z).run P w = .ok () w' := by
  cases x <;> first | (simp only [stF, M.no] at h; cases h; done) | skip
  rename_i id off
  simp only [VR] at hx
  obtain ⟨did, rfl⟩ := hx
  obtain ⟨l, hl, h⟩ := ofO_some h
  obtain ⟨hb, h⟩ := ifB_some h
  obtain ⟨u, t', h1, h2⟩ := bind_some h
  obtain ⟨rfl, rfl⟩ := pure_some h2
  have hlm : l.length = m := Nat.eq_of_beq_eq_true hb
  obtain ⟨k1, k2⟩ := hy.cells hl
  obtain ⟨g1, g2, g3, g4⟩ := wr_ok (P := P) hr.hr k1 k2 h1
  refine ⟨_, ⟨g2, setCells_below _ _ (hr.hr.old id did) _ _ _ _ hr.bel⟩, rfl, g1, ?_⟩
  have hsz : Z.cells.size = m := by have := k1.length; simp at this; omega
  simp [Instr.storeAt, Instr.sureAddr, storeVar, size_ok hY hm, hsz, g4]
theorem nil_ok (hr : Rel β D B W s.h w) {x v : AV} {X : Value} (h : nilF x s = some (v, s')) (hx : VR β D x X) : v = x ∧ s' = s ∧
    ((∃ ad, X = .pointer (some ad)) ∨ ∃ fn A C, X = .func (.func fn) A C) := by
  cases x <;> first | (simp only [nilF, M.no] at h; cases h; done) | skip
  · obtain ⟨rfl, rfl⟩ := pure_some h
    simp only [VR] at hx
    exact ⟨rfl, rfl, .inl ⟨_, hx.2⟩⟩
  · obtain ⟨rfl, rfl⟩ := pure_some h
    simp only [VR] at hx
    obtain ⟨A, C, hx, _⟩ := hx
    exact ⟨rfl, rfl, .inr ⟨_, _, _, hx⟩⟩
end
end Ev
end Go.Proofs.Ytijnjnncgkhabaa
