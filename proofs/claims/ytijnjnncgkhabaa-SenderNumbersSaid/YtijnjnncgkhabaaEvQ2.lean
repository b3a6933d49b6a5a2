/- DERIVED. The evaluator's operations against the model's: equality, texts, lengths, the least and the greatest. -/
import Derived.Test.YtijnjnncgkhabaaEvQ
import Derived.LaidEql
import Derived.Laws.Cover3
namespace Go.Proofs.Ytijnjnncgkhabaa
namespace Ev
open Go.RowKit

section
variable {P : Program} {Y : Ty} {β : Id → CA} {D : Id → Prop} {B N : Nat} {W w : World} {s s' : S} {e : Env} {a : Act}

/-- 'does an equality of this kind hold', as the two words say it -/
def EqOp (o : BinOp) (ng : Bool) : Prop := o = .eql ∧ ng = false ∨ o = .neq ∧ ng = true

theorem guard_free {o : BinOp} {t : TypeId} {x y : Operand} {X Z : Value} (h1 : X ≠ .nilIface) (h2 : ∀ c, X ≠ .agg c) (w : World) : (eqGuard o t x y X Z).run P w = .ok () w := by
  cases o <;> simp only [eqGuard] <;> try rfl
  all_goals
    cases X <;> first | (exact absurd rfl h1) | (exact absurd rfl (h2 _)) | skip
    all_goals (cases Z <;> simp)
theorem eq_of_run {o : BinOp} {ng r : Bool} (ho : EqOp o ng) {t : TypeId} {x y : Operand} {X Z : Value} (h1 : X ≠ .nilIface) (h2 : ∀ c, X ≠ .agg c)
    (he : binOp .eql t X Z = (do pure (.bool (← Op.equal t X Z)))) (hn : binOp .neq t X Z = (do pure (.bool (!(← Op.equal t X Z))))) (h : (Op.equal t X Z).run P w = .ok r w) :
    (do eqGuard o t x y X Z; binOp o t X Z : Sem Value).run P w = .ok (.bool (ng != r)) w := by
  rw [Sem.run_bind, guard_free h1 h2]
  simp only [Result.andThen_ok]
  rcases ho with ⟨rfl, rfl⟩ | ⟨rfl, rfl⟩
  · rw [he, Sem.run_bind, h]; simp
  · rw [hn, Sem.run_bind, h]; simp

/-- The same memory. -/
def Same (s s' : S) : Prop := s'.h = s.h ∧ s'.n = s.n
theorem Same.gives (h : Same s s') (hr : Rel β D B W s.h w) {v : AV} {V : Value} (hv : VR β D v V) {m : Sem Value} (hm : m.run P w = .ok V w) : Gives P β D B W s s' v m w :=
  ⟨β, D, w, V, by rw [h.2]; exact Ext.refl _ _ _, ⟨by rw [h.1]; exact hr.hr, hr.bel⟩, hv, hm⟩

theorem eqd {t : TypeId} {X Z : Value} {r : Bool} (h : ∀ d, (Op.equalIn (d + 1) t X Z).run P w = .ok r w) : (Op.equal t X Z).run P w = .ok r w := h 9999

theorem eqP_ok (hr : HR β D B s.h w) {i j : Id} {p q : Nat} {r : Bool} (h : eqP i p j q s = some (r, s')) :
    Same s s' ∧ (sameAddr ⟨(β i).blk, (β i).base + p, none⟩ ⟨(β j).blk, (β j).base + q, none⟩).run P w = .ok r w := by
  unfold eqP at h
  cases hb : Nat.beq i.num j.num <;> rw [hb] at h <;> simp only at h
  · obtain ⟨z, u, h1, h⟩ := bind_some h
    obtain ⟨z', u', h2, h⟩ := bind_some h
    obtain ⟨hz, h⟩ := ifB_some h
    obtain ⟨rfl, rfl⟩ := pure_some h
    obtain ⟨a1, a2, k, hk, rfl⟩ := shared_ok h1
    obtain ⟨b1, b2, k', hk', rfl⟩ := shared_ok h2
    rw [a1] at hk'
    have hz' : k.z.s = false ∧ k'.z.s = false := by simpa using hz
    refine ⟨⟨b1.trans a1, b2.trans a2⟩, ?_⟩
    obtain ⟨_, c, el, fz, g1, g2, g3, _⟩ := hr.live i k hk
    obtain ⟨_, c', el', fz', g1', g2', g3', _⟩ := hr.live j k' hk'
    rw [hz'.1] at g3
    rw [hz'.2] at g3'
    simp only [fzok] at g3 g3'
    subst g3 g3'
    refine run_sameAddr_other w ?_ g1 g1'
    intro he
    have hblk : (β i).blk = (β j).blk := congrArg Addr.block he
    have hij := hr.inj i j (by rw [hk]; simp) (by rw [hk']; simp) hblk
    rw [hij] at hb
    simp at hb
  · obtain rfl := Id.num_inj (Nat.eq_of_beq_eq_true hb)
    obtain ⟨rfl, rfl⟩ := pure_some h
    refine ⟨⟨rfl, rfl⟩, ?_⟩
    simp only [sameAddr]
    by_cases hp : p = q
    · subst hp; simp
    · have e : Nat.beq p q = false := by cases hb2 : Nat.beq p q; rfl; exact absurd (Nat.eq_of_beq_eq_true hb2) hp
      rw [e]
      simp [hp]

theorem eq_ok (hY : TyOk P Y) (hr : Rel β D B W s.h w) {o : BinOp} {ng : Bool} (ho : EqOp o ng) {t : TypeId} {d : TypeDesc} {kd : Nat} (ht : under Y t = some d) (hk : eqD Y t d = some kd) {x y v : AV} {X Z : Value} {xo yo : Operand}
    (h : eqN kd ng x y s = some (v, s')) (hx : VR β D x X) (hy : VR β D y Z) : Gives P β D B W s s' v (do eqGuard o t xo yo X Z; binOp o t X Z) w := by
  obtain ⟨r, u, h, h'⟩ := bind_some h
  obtain ⟨rfl, rfl⟩ := pure_some h'
  have hu := under_ok hY ht
  have fin : ∀ {r : Bool}, Same s s' → X ≠ .nilIface → (∀ c, X ≠ .agg c) → binOp .eql t X Z = (do pure (.bool (← Op.equal t X Z))) → binOp .neq t X Z = (do pure (.bool (!(← Op.equal t X Z)))) → (Op.equal t X Z).run P w = .ok r w →
      Gives P β D B W s s' (.b (ng != r)) (do eqGuard o t xo yo X Z; binOp o t X Z) w := fun hs h1 h2 h3 h4 h5 =>
    hs.gives hr (by simp only [VR]) (eq_of_run ho h1 h2 h3 h4 h5)
  cases d <;> simp only [eqD] at hk <;> try (cases hk; done)
  · -- bool
    cases hk
    simp only [eqK] at h
    cases x <;> first | (simp only [eqB, M.no] at h; cases h; done) | skip
    cases y <;> first | (simp only [eqB, M.no] at h; cases h; done) | skip
    obtain ⟨rfl, rfl⟩ := pure_some h
    simp only [VR] at hx hy
    subst hx hy
    exact fin ⟨rfl, rfl⟩ (by simp) (by simp) rfl rfl (run_equal_bool w t _ _ hu)
  · -- pointer
    rename_i el
    rw [Option.bind_eq_some_iff] at hk
    obtain ⟨m, hm, hk⟩ := hk
    cases m with
    | zero => cases hk
    | succ m =>
    simp only [Option.some.injEq] at hk
    subst hk
    simp only [eqK] at h
    cases x <;> first | (simp only [eqQ, M.no] at h; cases h; done) | skip
    · cases y <;> first | (simp only [eqQ, M.no] at h; cases h; done) | skip
      · obtain ⟨rfl, rfl⟩ := pure_some h
        simp only [VR] at hx hy
        subst hx hy
        exact fin ⟨rfl, rfl⟩ (by simp) (by simp) rfl rfl (eqd fun dd => by simp [Op.equalIn, run_underlying hu])
      · obtain ⟨rfl, rfl⟩ := pure_some h
        simp only [VR] at hx hy
        obtain ⟨_, rfl⟩ := hy
        subst hx
        exact fin ⟨rfl, rfl⟩ (by simp) (by simp) rfl rfl (eqd fun dd => by simp [Op.equalIn, run_underlying hu])
    · cases y <;> first | (simp only [eqQ, M.no] at h; cases h; done) | skip
      · obtain ⟨rfl, rfl⟩ := pure_some h
        simp only [VR] at hx hy
        obtain ⟨_, rfl⟩ := hx
        subst hy
        exact fin ⟨rfl, rfl⟩ (by simp) (by simp) rfl rfl (eqd fun dd => by simp [Op.equalIn, run_underlying hu])
      · simp only [VR] at hx hy
        obtain ⟨_, rfl⟩ := hx
        obtain ⟨_, rfl⟩ := hy
        obtain ⟨hs, hrun⟩ := eqP_ok (P := P) hr.hr h
        refine fin hs (by simp) (by simp) rfl rfl (eqd fun dd => ?_)
        simp [Op.equalIn, run_underlying hu, size_ok hY hm, hrun]
  · -- slice
    rename_i el
    cases hk
    simp only [eqK] at h
    have nil2 : ∀ (p : Option Addr) (l c : Nat), (Op.equal t (.slice p l c) (.slice none 0 0)).run P w = .ok p.isNone w := fun p l c => run_equal_slice_nil w t el p l c hu
    have nil1 : ∀ (p : Option Addr) (l c : Nat), (Op.equal t (.slice none 0 0) (.slice p l c)).run P w = .ok p.isNone w := fun p l c => by
      refine eqd fun dd => ?_
      simp [Op.equalIn, run_underlying hu]
    cases x <;> first | (simp only [eqS, M.no] at h; cases h; done) | skip
    · cases y <;> first | (simp only [eqS, M.no] at h; cases h; done) | skip
      · obtain ⟨rfl, rfl⟩ := pure_some h
        simp only [VR] at hx hy
        subst hx hy
        exact fin ⟨rfl, rfl⟩ (by simp) (by simp) rfl rfl (nil2 _ _ _)
      · obtain ⟨rfl, rfl⟩ := pure_some h
        simp only [VR] at hx hy
        obtain ⟨_, rfl⟩ := hy
        subst hx
        exact fin ⟨rfl, rfl⟩ (by simp) (by simp) rfl rfl (nil1 _ _ _)
      · obtain ⟨rfl, rfl⟩ := pure_some h
        simp only [VR] at hx hy
        obtain ⟨_, _, q, cap, rfl, _⟩ := hy
        subst hx
        exact fin ⟨rfl, rfl⟩ (by simp) (by simp) rfl rfl (nil1 _ _ _)
    · cases y <;> first | (simp only [eqS, M.no] at h; cases h; done) | skip
      obtain ⟨rfl, rfl⟩ := pure_some h
      simp only [VR] at hx hy
      obtain ⟨_, rfl⟩ := hx
      subst hy
      exact fin ⟨rfl, rfl⟩ (by simp) (by simp) rfl rfl (nil2 _ _ _)
    · cases y <;> first | (simp only [eqS, M.no] at h; cases h; done) | skip
      obtain ⟨rfl, rfl⟩ := pure_some h
      simp only [VR] at hx hy
      obtain ⟨_, _, q, cap, rfl, _⟩ := hx
      subst hy
      exact fin ⟨rfl, rfl⟩ (by simp) (by simp) rfl rfl (nil2 _ _ _)
  · -- an array
    rw [Option.bind_eq_some_iff] at hk
    obtain ⟨_, hq, hk⟩ := hk
    rw [Option.bind_eq_some_iff] at hk
    obtain ⟨m, hm, hk⟩ := hk
    cases hk
    have hq' : Y.q t = true := by cases hb : Y.q t <;> simp [guardB, hb] at hq ⊢
    simp only [eqK] at h
    cases x <;> first | (simp only [eqG, M.no] at h; cases h; done) | skip
    cases y <;> first | (simp only [eqG, M.no] at h; cases h; done) | skip
    rename_i xs ys h0
    have hl : xs.length = m := by
      cases hb : Nat.beq xs.length m with
      | true => exact Nat.eq_of_beq_eq_true hb
      | false => simp only [eqG, hb, M.no] at h; cases h
    subst hl
    simp only [eqG, Nat.beq_refl] at h
    obtain ⟨r', hr', h⟩ := ofO_some h
    obtain ⟨rfl, rfl⟩ := pure_some h
    simp only [VR] at hx hy
    obtain ⟨C, rfl, hC, _⟩ := hx
    obtain ⟨C', rfl, hC', _⟩ := hy
    exact Same.gives ⟨rfl, rfl⟩ hr (by simp only [VR]) (hY.q t hq' o ng ho β D _ _ _ _ r hC hC' hm hr' xo yo w)
  · -- a struct
    rw [Option.bind_eq_some_iff] at hk
    obtain ⟨_, hq, hk⟩ := hk
    rw [Option.bind_eq_some_iff] at hk
    obtain ⟨m, hm, hk⟩ := hk
    cases hk
    have hq' : Y.q t = true := by cases hb : Y.q t <;> simp [guardB, hb] at hq ⊢
    simp only [eqK] at h
    cases x <;> first | (simp only [eqG, M.no] at h; cases h; done) | skip
    cases y <;> first | (simp only [eqG, M.no] at h; cases h; done) | skip
    rename_i xs ys h0
    have hl : xs.length = m := by
      cases hb : Nat.beq xs.length m with
      | true => exact Nat.eq_of_beq_eq_true hb
      | false => simp only [eqG, hb, M.no] at h; cases h
    subst hl
    simp only [eqG, Nat.beq_refl] at h
    obtain ⟨r', hr', h⟩ := ofO_some h
    obtain ⟨rfl, rfl⟩ := pure_some h
    simp only [VR] at hx hy
    obtain ⟨C, rfl, hC, _⟩ := hx
    obtain ⟨C', rfl, hC', _⟩ := hy
    exact Same.gives ⟨rfl, rfl⟩ hr (by simp only [VR]) (hY.q t hq' o ng ho β D _ _ _ _ r hC hC' hm hr' xo yo w)
  · -- a function
    cases hk
    simp only [eqK] at h
    cases x <;> first | (simp only [eqF, M.no] at h; cases h; done) | skip
    · cases y <;> first | (simp only [eqF, M.no] at h; cases h; done) | skip
      · obtain ⟨rfl, rfl⟩ := pure_some h
        simp only [VR] at hx hy
        subst hx hy
        exact fin ⟨rfl, rfl⟩ (by simp) (by simp) rfl rfl (eqd fun dd => by simp [Op.equalIn, run_underlying hu])
      · obtain ⟨rfl, rfl⟩ := pure_some h
        simp only [VR] at hx hy
        obtain ⟨_, _, rfl, _⟩ := hy
        subst hx
        exact fin ⟨rfl, rfl⟩ (by simp) (by simp) rfl rfl (eqd fun dd => by simp [Op.equalIn, run_underlying hu])
    · cases y <;> first | (simp only [eqF, M.no] at h; cases h; done) | skip
      obtain ⟨rfl, rfl⟩ := pure_some h
      simp only [VR] at hx hy
      obtain ⟨_, _, rfl, _⟩ := hx
      subst hy
      exact fin ⟨rfl, rfl⟩ (by simp) (by simp) rfl rfl (eqd fun dd => by simp [Op.equalIn, run_underlying hu])
end
end Ev
end Go.Proofs.Ytijnjnncgkhabaa
