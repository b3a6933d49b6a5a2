/- DERIVED. Code and functions: what the evaluator gives is what the model does. -/
import Derived.Test.YtijnjnncgkhabaaEvD2
namespace Go.Proofs.Ytijnjnncgkhabaa
namespace Ev
open Go.RowKit

section
variable {P : Program} {Y : Ty} {β : Id → CA} {D : Id → Prop} {B N : Nat} {W w : World} {s s' u : S} {e e' : Env} {a : Act} {F : Fns}

/-- A row in its own order. -/
theorem ops_ok (hY : TyOk P Y) (hF : FnOk P F) (hL : LocF F) {ops : Array Oper} {Q : Exit → Act → World → Prop} : ∀ (l : List Oper) (k : Nat) (pl : List PS) (β : Id → CA) (D : Id → Prop) (s s' : S) (e e' : Env) (a : Act) (w : World), l = ops.toList.drop k → cSs Y N ops.toList l = some pl →
    opsR F pl e s = some (e', s') → Rel β D B W s.h w → ER β D N e a → Fresh D s.n.num s'.n.num → GoesC β D B N W s s' e' (Q .normal) → wpOps P ops Q (List.range' k l.length) a w
  | [], k, pl, β, D, s, s', e, e', a, w, hl, hc, h, hr, he, hfr, hQ => by
    simp only [cSs] at hc
    cases hc
    obtain ⟨rfl, rfl⟩ := pure_some h
    exact hQ β D a w (Ext.refl _ _ _) hr he
  | o :: l, k, pl, β, D, s, s', e, e', a, w, hl, hc, h, hr, he, hfr, hQ => by
    simp only [cSs] at hc
    obtain ⟨ps, hps, hc⟩ := bi_some hc
    obtain ⟨pl', hpl', hc⟩ := bi_some hc
    cases hc
    simp only [opsR] at h
    obtain ⟨e1, s1, h1, h2⟩ := bind_some h
    obtain ⟨v, s2, h3, h4⟩ := bind_some h1
    obtain ⟨rfl, rfl⟩ := pure_some h4
    have ho : ops[k]? = some o := by
      have := congrArg (fun l => l[0]?) hl
      simp only [List.getElem?_cons_zero, List.getElem?_drop, Nat.add_zero] at this
      simpa using this.symm
    have hl' : l = ops.toList.drop (k + 1) := by
      rw [← List.tail_drop, ← hl]; rfl
    obtain ⟨c1, c2, c3, _⟩ := Loc.opsR hL _ _ _ _ _ h2
    obtain ⟨hd, hpd⟩ := cS_dst hps
    rw [List.length_cons, List.range'_succ, wpOps_cons]
    refine ps_ok hY hF hr he ho hps h3 (hfr.left c2) ?_
    intro β' D' w' V hx hrel hv
    refine ops_ok hY hF hL l (k + 1) pl' β' D' _ s' _ e' _ w' hl' hpl' h2 hrel ?_ (hfr.right hx) (hQ.from hx)
    rw [hpd]
    exact (he.mono hx).put hd hv

/-- the exit that is meant -/
def exitOf (x : Option Ex) : Exit := match x with
  | none => .normal
  | some .ret => .ret
  | some (.exit id) => .exit id


theorem least_ex (p : Nat → Prop) (h : ∃ m, p m) : ∃ m, p m ∧ ∀ k, p k → m ≤ k := by
  obtain ⟨m, hm⟩ := h
  induction m using Nat.strongRecOn with
  | _ m ih =>
    by_cases hk : ∃ k, k < m ∧ p k
    · obtain ⟨k, k1, k2⟩ := hk
      exact ih k k1 k2
    · exact ⟨m, hm, fun k hp => by
        rcases Nat.lt_or_ge k m with h' | h'
        · exact absurd ⟨k, h', hp⟩ hk
        · exact h'⟩
open Classical in
/-- the least of those of which p is said -/
noncomputable def least (p : Nat → Prop) : Nat := if h : ∃ m, p m then Classical.choose (least_ex p h) else 0
theorem least_spec {p : Nat → Prop} (h : ∃ m, p m) : p (least p) ∧ ∀ k, p k → least p ≤ k := by
  unfold least
  rw [dif_pos h]
  exact Classical.choose_spec (least_ex p h)
theorem co_ok (hY : TyOk P Y) (hmix : P.follows .mixedOrders = true) (hF : FnOk P F) (hL : LocF F) : ∀ (c : Code) (pc : PC) (β : Id → CA) (D : Id → Prop) (s s' : S) (e e' : Env) (x : Option Ex) (a : Act) (w : World) (Q : Exit → Act → World → Prop), cC Y N c = some pc →
    coR F pc e s = some ((x, e'), s') → Rel β D B W s.h w → ER β D N e a → Fresh D s.n.num s'.n.num → GoesC β D B N W s s' e' (Q (exitOf x)) → c.wp P Q a w := by
  intro c
  induction c with
  | skip =>
    intro pc β D s s' e e' x a w Q hc h hr he hfr hQ
    simp only [cC] at hc
    cases hc
    obtain ⟨hx, rfl⟩ := pure_some h
    cases hx
    exact wp_skip (hQ β D a w (Ext.refl _ _ _) hr he)
  | region id ops d =>
    intro pc β D s s' e e' x a w Q hc h hr he hfr hQ
    simp only [cC] at hc
    obtain ⟨pl, hpl, hc⟩ := bi_some hc
    cases d with
    | false =>
      simp only at hc
      cases hc
      obtain ⟨e1, s1, h1, h2⟩ := bind_some h
      obtain ⟨hx, rfl⟩ := pure_some h2
      cases hx
      refine wp_region ?_
      have := ops_ok (Q := Q) hY hF hL ops.toList 0 pl β D s s' e e' a w (by simp) hpl h1 hr he hfr hQ
      rw [List.range_eq_range']
      simpa using this
    | true =>
      simp only at hc
      obtain ⟨_, hg, hc⟩ := bi_some hc
      cases hc
      have hg' := guardB_some hg
      simp only [Bool.and_eq_true] at hg'
      obtain ⟨e1, s1, h1, h2⟩ := bind_some h
      obtain ⟨hx, rfl⟩ := pure_some h2
      cases hx
      refine wp_region_any hmix ?_
      obtain ⟨E, H, nn, v, R, Ww, st, c1, c2, c3, c4, c5, c6, _⟩ := drw_steps hL pl _ [] 0 e s e' s' h1
      obtain ⟨hlen, hget⟩ := cSs_get hpl
      have hlen' : pl.length = ops.size := by simpa using hlen
      have hmk : ∀ k, k < pl.length → (nn k).num ≤ (nn (k + 1)).num := by
        intro k hk
        obtain ⟨hrun, _⟩ := st.run k pl[k] (by simp [hk])
        exact (Loc.psV hL _ _ _ _ _ hrun).2.1
      have up0 : ∀ k, k ≤ pl.length → (nn 0).num ≤ (nn k).num ∧ ∀ id, s.h id = none → H k id = none ∨ ((nn 0).num ≤ id.num ∧ id.num < (nn k).num) := by
        intro k
        induction k with
        | zero => intro _; exact ⟨Nat.le_refl _, fun id h => .inl (by rw [c2]; exact h)⟩
        | succ k ih =>
          intro hk
          have hkl : k < pl.length := by omega
          obtain ⟨i1, i2⟩ := ih (by omega)
          obtain ⟨hrun, _⟩ := st.run k pl[k] (by simp [hkl])
          have hb := (Loc.psV hL _ _ _ _ _ hrun).2.2.1
          simp only at hb
          have := hmk k hkl
          refine ⟨by omega, fun id hid => ?_⟩
          rcases i2 id hid with h3 | h3
          · rcases hb id h3 with h4 | h4
            · exact .inl h4
            · exact .inr ⟨by omega, h4.2⟩
          · exact .inr ⟨h3.1, by omega⟩
      have last : ∀ k, k ≤ pl.length → (nn k).num ≤ (nn pl.length).num := by
        intro k hk
        have key : ∀ d, k + d ≤ pl.length → (nn k).num ≤ (nn (k + d)).num := by
          intro d
          induction d with
          | zero => intro _; exact Nat.le_refl _
          | succ d ih => intro hd; exact Nat.le_trans (ih (by omega)) (hmk (k + d) (by omega))
        have := key (pl.length - k) (by omega)
        rwa [show k + (pl.length - k) = pl.length by omega] at this
      have hfk : ∀ k, k < pl.length → FreeTo ⟨true, H k, nn k, [], []⟩ ⟨true, H (k + 1), nn (k + 1), [], []⟩ := by
        intro k hk id d1 d2
        simp only at d1 d2 ⊢
        have u1 := up0 k (by omega)
        have u2 := last (k + 1) (by omega)
        have hn : s.h id = none := by
          cases hs : s.h id with
          | none => rfl
          | some b => exact absurd (hr.hr.live id b hs).1 (hfr id (by rw [← c3]; omega) (by rw [← c6]; omega))
        exact (u1.2 id hn).resolve_right (by omega)
      have hrd : Rel β D B W s.h { w with drawn := w.drawn + 1 } := ⟨Ext.drew_heap hr.hr rfl, hr.bel.drew⟩
      refine draw_any (W := W) (B := B) (N := N) hY hF hL rfl hpl hg'.1 hg'.2 st hfk hmk (β₀ := β) (D₀ := D) (by rw [c3, c6]; exact hfr) (Q := Q) ?_ ops.size (Array.replicate ops.size false) (List.range ops.size) β D e s.h a _ (by simp) (fun i hi _ => by simp; omega) ?_
      · intro β' D' a' w' hx hrel her
        rw [c3, c6] at hx
        rw [c5] at hrel
        rw [c4] at her
        exact hQ β' D' a' w' hx hrel her
      · have nup : ∀ k, ¬ up (Array.replicate ops.size false) k := fun k hk => by
          unfold up at hk
          by_cases hks : k < ops.size
          · simp [hks] at hk
          · simp [hks] at hk
        refine ⟨by simp [hlen'], fun id hd => ⟨hd, rfl⟩, fun id hd => .inl hd, hrd, he, fun t m m1 m2 m3 => ?_, fun id j m m1 m2 m3 => ?_, fun k _ hk => absurd hk (nup k)⟩
        · rcases m2 with rfl | ⟨hu, _⟩
          · rw [c1]
          · exact absurd hu (nup _)
        · rcases m2 with rfl | ⟨hu, _⟩
          · rw [c2]
          · exact absurd hu (nup _)
  | seq c1 c2 ih1 ih2 =>
    intro pc β D s s' e e' x a w Q hc h hr he hfr hQ
    simp only [cC] at hc
    obtain ⟨p1, hp1, hc⟩ := bi_some hc
    obtain ⟨p2, hp2, hc⟩ := bi_some hc
    cases hc
    obtain ⟨xe, s1, h1, h2⟩ := bind_some h
    obtain ⟨x1, e1⟩ := xe
    obtain ⟨b1, b2, b3, _⟩ := Loc.coR hL _ _ _ _ _ h1
    refine wp_seq ?_
    cases x1 with
    | none =>
      simp only at h2
      obtain ⟨d1, d2, d3, _⟩ := Loc.coR hL _ _ _ _ _ h2
      refine ih1 p1 β D s s1 e e1 none a w _ hp1 h1 hr he (hfr.left d2) ?_
      intro β' D' a' w' hx hrel her
      exact ih2 p2 β' D' s1 s' e1 e' x a' w' Q hp2 h2 hrel her (hfr.right hx) (hQ.from hx)
    | some ex =>
      obtain ⟨hx', rfl⟩ := pure_some h2
      cases hx'
      refine ih1 p1 β D s _ e _ (some ex) a w _ hp1 h1 hr he hfr ?_
      intro β' D' a' w' hx hrel her
      have := hQ β' D' a' w' hx hrel her
      cases ex <;> exact this
  | cond t c1 c2 ih1 ih2 =>
    intro pc β D s s' e e' x a w Q hc h hr he hfr hQ
    simp only [cC] at hc
    obtain ⟨t1, ht1, hc⟩ := bi_some hc
    obtain ⟨p1, hp1, hc⟩ := bi_some hc
    obtain ⟨p2, hp2, hc⟩ := bi_some hc
    cases hc
    have hv := arg_ok he ht1
    simp only [coR] at h
    cases hq : arg t1 e <;> rw [hq] at h hv <;> first | (simp only [M.no] at h; cases h; done) | skip
    rename_i b
    simp only [VR] at hv
    cases b
    · exact wp_cond_false hv (ih2 p2 β D s s' e e' x a w Q hp2 h hr he hfr hQ)
    · exact wp_cond_true hv (ih1 p1 β D s s' e e' x a w Q hp1 h hr he hfr hQ)
  | block id b ih =>
    intro pc β D s s' e e' x a w Q hc h hr he hfr hQ
    simp only [cC] at hc
    obtain ⟨p1, hp1, hc⟩ := bi_some hc
    cases hc
    obtain ⟨xe, s1, h1, h2⟩ := bind_some h
    obtain ⟨x1, e1⟩ := xe
    refine wp_block ?_
    have fin : ∀ {y : Option Ex}, s1 = s' → e1 = e' → (∀ a w, Q (exitOf x) a w → Exit.inBlock id Q (exitOf y) a w) → x1 = y → b.wp P (Exit.inBlock id Q) a w := by
      intro y hs hee himp hy
      subst hs hee hy
      exact ih p1 β D s s1 e e1 x1 a w _ hp1 h1 hr he hfr (fun β' D' a' w' hx hrel her => himp _ _ (hQ β' D' a' w' hx hrel her))
    cases x1 with
    | none =>
      obtain ⟨hx', hs⟩ := pure_some h2
      cases hx'
      exact fin (y := none) hs.symm rfl (fun a w h => h) rfl
    | some ex =>
      cases ex with
      | ret =>
        obtain ⟨hx', hs⟩ := pure_some h2
        cases hx'
        exact fin (y := some .ret) hs.symm rfl (fun a w h => h) rfl
      | exit j =>
        simp only at h2
        cases hj : Nat.beq j id <;> rw [hj] at h2 <;> simp only at h2
        · obtain ⟨hx', hs⟩ := pure_some h2
          cases hx'
          have hne : j ≠ id := fun e => by subst e; simp at hj
          refine fin (y := some (.exit j)) hs.symm rfl (fun a w h => ?_) rfl
          simp only [exitOf, Exit.inBlock, if_neg hne]
          exact h
        · obtain ⟨hx', hs⟩ := pure_some h2
          cases hx'
          have he' : j = id := Nat.eq_of_beq_eq_true hj
          refine fin (y := some (.exit j)) hs.symm rfl (fun a w h => ?_) rfl
          simp only [exitOf, Exit.inBlock, if_pos he']
          exact h
  | loop b ih =>
    intro pc β D s s' e e' x a w Q hc h hr he hfr hQ
    simp only [cC] at hc
    obtain ⟨pb, hpb, hc⟩ := bi_some hc
    cases hc
    -- the rounds that are left
    let J : Nat → Act → World → Prop := fun m a w => ∃ β1 D1 s1 e1, Ext β D β1 D1 s.n.num s1.n.num ∧ Rel β1 D1 B W s1.h w ∧ ER β1 D1 N e1 a ∧ iter m (fun e => coR F pb e) e1 s1 = some ((x, e'), s')
    have hJ : ∃ m, J m a w := ⟨rounds, β, D, s, e, Ext.refl _ _ _, hr, he, h⟩
    refine wp_loop (fun a w => ∃ m, J m a w) (fun a w => least fun m => J m a w) hJ ?_
    intro a1 w1 h1
    obtain ⟨hm, hleast⟩ := least_spec h1
    generalize hmin : least (fun m => J m a1 w1) = m at hm hleast
    obtain ⟨β1, D1, s1, e1, hx1, hr1, he1, hrun⟩ := hm
    cases m with
    | zero => simp [iter, M.no] at hrun
    | succ m =>
    simp only [iter] at hrun
    obtain ⟨xe, s2, k1, k2⟩ := bind_some hrun
    obtain ⟨x2, e2⟩ := xe
    have hfr1 : Fresh D1 s1.n.num s'.n.num := hfr.right hx1
    cases x2 with
    | none =>
      simp only at k2
      have hle2 := (Loc.iter (fun e => Loc.coR hL pb e) m e2 _ _ _ k2).2.1
      refine ih pb β1 D1 s1 s2 e1 e2 none a1 w1 _ hpb k1 hr1 he1 (hfr1.left hle2) ?_
      intro β' D' a' w' hx hrel her
      have hJ' : J m a' w' := ⟨β', D', s2, e2, hx1.trans hx, hrel, her, k2⟩
      refine ⟨⟨m, hJ'⟩, ?_⟩
      have := (least_spec (p := fun m => J m a' w') ⟨m, hJ'⟩).2 m hJ'
      omega
    | some ex =>
      obtain ⟨hx', rfl⟩ := pure_some k2
      cases hx'
      refine ih pb β1 D1 s1 _ e1 _ (some ex) a1 w1 _ hpb k1 hr1 he1 hfr1 ?_
      intro β' D' a' w' hx hrel her
      have := hQ β' D' a' w' (hx1.trans hx) hrel her
      cases ex <;> exact this
  | exit id =>
    intro pc β D s s' e e' x a w Q hc h hr he hfr hQ
    simp only [cC] at hc
    cases hc
    obtain ⟨hx, rfl⟩ := pure_some h
    cases hx
    exact wp_exit (hQ β D a w (Ext.refl _ _ _) hr he)
  | ret =>
    intro pc β D s s' e e' x a w Q hc h hr he hfr hQ
    simp only [cC] at hc
    cases hc
    obtain ⟨hx, rfl⟩ := pure_some h
    cases hx
    exact wp_ret (hQ β D a w (Ext.refl _ _ _) hr he)
  | _ =>
    all_goals
      intro pc β D s s' e e' x a w Q hc
      simp [cC] at hc
end
end Ev
end Go.Proofs.Ytijnjnncgkhabaa
