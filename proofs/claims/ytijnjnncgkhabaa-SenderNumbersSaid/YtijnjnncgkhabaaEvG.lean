/- DERIVED. Functions: what the evaluator gives is what the model's call gives. -/
import Derived.Test.YtijnjnncgkhabaaEvF
namespace Go.Proofs.Ytijnjnncgkhabaa
namespace Ev
open Go.RowKit

section
variable {P : Program} {Y : Ty} {β : Id → CA} {D : Id → Prop} {B N : Nat} {W w : World} {s s' u : S} {e e' : Env} {a : Act} {F : Fns} {own : Nat → List AV → M AV} {X : Nat → Option PF}

/-- What a function that is taken whole must do. -/
def OwnOk (P : Program) (own : Nat → List AV → M AV) (k f : Nat) : Prop := ∀ l s v s', own k l s = some (v, s') → ∀ β D B W w L, VRs β D l L → Rel β D B W s.h w → Fresh D s.n.num s'.n.num →
  Calls P f L.toArray w fun e w' => ∃ β' D' V, e = .returned V ∧ Ext β D β' D' s.n.num s'.n.num ∧ Rel β' D' B W s'.h w' ∧ VR β' D' v V
/-- The table of functions fits the program. -/
structure TabOk (P : Program) (Y : Ty) (own : Nat → List AV → M AV) (X : Nat → Option PF) : Prop where
  call : ∀ f pf, X f = some pf → ∀ args w, (callFunc f args).run P w = .ok (.enter f args) w
  own : ∀ f k, X f = some (.own k) → OwnOk P own k f
  walk : ∀ f b r, X f = some (.f b r) → ∃ fn, P.funcs[f]? = some fn ∧ cF Y fn = some (.f b r)

theorem argE_ok {l : List AV} {L : List Value} (h : VRs β D l L) (n : Nat) : ER β D n (argE l) { tmps := L.toArray ++ Array.replicate (n - L.toArray.size) undef, defers := [] } := by
  refine ⟨by simp; omega, fun t => ?_, rfl⟩
  unfold argE
  simp only [Array.getD_eq_getD_getElem?]
  cases hl : l[t]? with
  | some v =>
    obtain ⟨V, hV, hv⟩ := h.get t v hl
    have ht : t < L.length := (List.getElem?_eq_some_iff.1 hV).1
    rw [Array.getElem?_append_left (by simpa using ht)]
    simp [hV]
    exact hv
  | none =>
    have ht : L.length ≤ t := by rw [h.length]; exact List.getElem?_eq_none_iff.1 hl
    rw [Array.getElem?_append_right (by simpa using ht), Array.getElem?_replicate]
    by_cases hq : t - L.toArray.size < n - L.toArray.size
    · rw [if_pos hq]; exact VR.und
    · rw [if_neg hq]; exact VR.und

theorem ld_at (hY : TyOk P Y) (hr : Rel β D B W s.h w) {t : TypeId} {d : TypeDesc} (ht : under Y t = some d) (hd : isAggD d = false) {x v : AV} {X : Value} (h : ldF x s = some (v, s')) (hx : VR β D x X) :
    Same s s' ∧ ∃ ad V, X = .pointer (some ad) ∧ VR β D v V ∧ (loadVar t ad).run P w = .ok V w := by
  cases x <;> first | (simp only [ldF, M.no] at h; cases h; done) | skip
  rename_i id off
  simp only [VR] at hx
  obtain ⟨did, rfl⟩ := hx
  obtain ⟨l, u, h1, h2⟩ := bind_some h
  obtain ⟨g1, g2, g3, Vs, g4, g5, g6, g7, g8⟩ := rd_ok hr.hr h1
  match l, h2, g3, g4 with
  | [y], h2, g3, g4 =>
    obtain ⟨rfl, rfl⟩ := pure_some h2
    obtain ⟨V, hV, hv⟩ := g4.get 0 v (by simp)
    have hagg : (isAgg t).run P w = .ok false w := by
      unfold isAgg
      rw [Sem.run_bind, run_underlying (under_ok hY ht)]
      cases d <;> simp_all [isAggD]
    have hc := g6 0 V hV
    simp only [Nat.add_zero] at hc
    exact ⟨⟨g1, g2⟩, _, V, rfl, hv, by simp [loadVar, hagg, run_load, hc]⟩
theorem ldn_at (hY : TyOk P Y) (hr : Rel β D B W s.h w) {t : TypeId} {d : TypeDesc} {m : Nat} (ht : under Y t = some d) (hd : isAggD d = true) (hm : sizeT Y t = some m) {x v : AV} {X : Value} (h : ldnF m x s = some (v, s')) (hx : VR β D x X) :
    Same s s' ∧ ∃ ad V, X = .pointer (some ad) ∧ VR β D v V ∧ (loadVar t ad).run P w = .ok V w := by
  cases x <;> first | (simp only [ldnF, M.no] at h; cases h; done) | skip
  rename_i id off
  simp only [VR] at hx
  obtain ⟨did, rfl⟩ := hx
  obtain ⟨l, u, h1, h2⟩ := bind_some h
  obtain ⟨g1, g2, g3, Vs, g4, g5, g6, g7, g8⟩ := rd_ok hr.hr h1
  obtain ⟨rfl, rfl⟩ := pure_some h2
  have hagg : (isAgg t).run P w = .ok true w := by
    unfold isAgg
    rw [Sem.run_bind, run_underlying (under_ok hY ht)]
    cases d <;> simp_all [isAggD]
  have hl := run_loadCells_list (P := P) w ⟨(β id).blk, (β id).base + off, none⟩ Vs (fun j V hV => by
    rw [add_at]
    exact g6 j V hV)
  rw [g5] at hl
  exact ⟨⟨g1, g2⟩, _, .agg Vs.toArray, rfl, by simp only [VR]; exact ⟨Vs, rfl, g4, g8⟩, by simp [loadVar, hagg, size_ok hY hm, hl]⟩
/-- a result's value -/
def resV (a : Act) (r : ResultVar) : Sem Value := match r with
  | .tmp t => pure (a.tmps.getD t undef)
  | .cell c t => do loadVar t (← asAddr (a.tmps.getD c undef))
theorem res_ok (hY : TyOk P Y) : ∀ (l : List ResultVar) (rs : List PR) (s s' : S) (vs : List AV), cRs Y l = some rs → resL e rs s = some (vs, s') → Rel β D B W s.h w → ER β D N e a →
    Same s s' ∧ ∃ Vs : List Value, VRs β D vs Vs ∧ (l.mapM (resV a)).run P w = .ok Vs w
  | [], rs, s, s', vs, hc, h, hr, he => by
    simp only [cRs] at hc
    cases hc
    obtain ⟨rfl, rfl⟩ := pure_some h
    exact ⟨⟨rfl, rfl⟩, [], VRs.nil, by simp [Sem.run_pure]⟩
  | r :: l, rs, s, s', vs, hc, h, hr, he => by
    simp only [cRs] at hc
    obtain ⟨pr, hpr, hc⟩ := bi_some hc
    obtain ⟨rs', hrs, hc⟩ := bi_some hc
    cases hc
    cases r with
    | tmp t =>
      simp only [cR] at hpr
      cases hpr
      obtain ⟨vs', s1, h1, h2⟩ := bind_some h
      obtain ⟨rfl, rfl⟩ := pure_some h2
      obtain ⟨g1, Vs, g2, g3⟩ := res_ok hY l rs' s _ vs' hrs h1 hr he
      refine ⟨g1, a.tmps.getD t undef :: Vs, VRs.cons (he.at_ t) g2, ?_⟩
      rw [List.mapM_cons, Sem.run_bind]
      simp only [resV, Sem.run_pure, Result.andThen_ok]
      rw [Sem.run_bind, g3]
      rfl
    | cell c t =>
      simp only [cR] at hpr
      obtain ⟨d, hd, hpr⟩ := bi_some hpr
      obtain ⟨m, hm, hpr⟩ := bi_some hpr
      have hv := he.at_ c
      have fin : ∀ {v : AV} {s1 : S} {vs' : List AV}, (Same s s1 ∧ ∃ ad V, a.tmps.getD c undef = .pointer (some ad) ∧ VR β D v V ∧ (loadVar t ad).run P w = .ok V w) → resL e rs' s1 = some (vs', s') → vs = v :: vs' →
          Same s s' ∧ ∃ Vs : List Value, VRs β D vs Vs ∧ ((ResultVar.cell c t :: l).mapM (resV a)).run P w = .ok Vs w := by
        rintro v s1 vs' ⟨hs1, ad, V, hX, hV, hld⟩ h2 rfl
        obtain ⟨g1, Vs, g2, g3⟩ := res_ok hY l rs' s1 s' vs' hrs h2 (hs1.rel hr) he
        refine ⟨⟨g1.1.trans hs1.1, g1.2.trans hs1.2⟩, V :: Vs, VRs.cons hV g2, ?_⟩
        rw [List.mapM_cons, Sem.run_bind]
        have : (resV a (.cell c t)).run P w = .ok V w := by
          simp only [resV, hX, asAddr, Sem.run_bind, Sem.run_pure, Result.andThen_ok, hld]
        rw [this]
        simp only [Result.andThen_ok]
        rw [Sem.run_bind, g3]
        rfl
      cases hagg : isAggD d <;> rw [hagg] at hpr <;> simp only at hpr <;> cases hpr
      · obtain ⟨v, s1, h1, h2⟩ := bind_some h
        obtain ⟨vs', s2, h3, h4⟩ := bind_some h2
        obtain ⟨rfl, rfl⟩ := pure_some h4
        exact fin (ld_at hY hr hd hagg h1 hv) h3 rfl
      · obtain ⟨v, s1, h1, h2⟩ := bind_some h
        obtain ⟨vs', s2, h3, h4⟩ := bind_some h2
        obtain ⟨rfl, rfl⟩ := pure_some h4
        exact fin (ldn_at hY hr hd hagg hm h1 hv) h3 rfl
theorem results_ok {fn : Func} {Vs : List Value} {vs : List AV} (h : (fn.results.toList.mapM (resV a)).run P w = .ok Vs w) (hv : VRs β D vs Vs) : ∃ V, (results fn a.tmps).run P w = .ok V w ∧ VR β D (oneR vs) V := by
  have hm : (fn.results.mapM (resV a)).run P w = .ok Vs.toArray w := by
    rw [Array.mapM_eq_mapM_toList, Sem.run_map, h]
    rfl
  have hres : (results fn a.tmps).run P w = .ok (if h : Vs.toArray.size = 1 then Vs.toArray[0] else .tuple Vs.toArray) w := by
    have e : results fn a.tmps = (fn.results.mapM (resV a)) >>= fun vs => pure (if h : vs.size = 1 then vs[0] else .tuple vs) := by
      unfold results
      congr 1
    rw [e, Sem.run_bind, hm]
    rfl
  refine ⟨_, hres, ?_⟩
  have hl := hv.length
  match vs, Vs, hv, hl with
  | [], [], hv, _ => simp only [oneR, VR]; exact ⟨[], by simp, VRs.nil⟩
  | [x], [V], hv, _ =>
    simp only [oneR]
    simp only [VRs] at hv
    obtain ⟨V', Vs', e, h1, h2⟩ := hv
    cases e
    simpa using h1
  | x :: y :: vs, V :: V' :: Vs, hv, _ =>
    simp only [oneR, VR]
    exact ⟨V :: V' :: Vs, by simp, hv⟩

/-- EVERY CALL THAT THE EVALUATOR CARRIES OUT IS CARRIED OUT SO BY THE MODEL. -/
theorem run_ok (hY : TyOk P Y) (hmix : P.follows .mixedOrders = true) (hown : ∀ k l, Loc (own k l)) (hX : TabOk P Y own X) : ∀ n, ∀ m, m ≤ n → FnOk P (run own X m) := by
  intro n
  induction n with
  | zero =>
    intro m hm f l s v s' h
    obtain rfl : m = 0 := by omega
    simp [run, M.no] at h
  | succ n ih =>
    intro m hm
    rcases Nat.lt_or_ge m (n + 1) with hlt | hge
    · exact ih m (by omega)
    obtain rfl : m = n + 1 := by omega
    intro f l s v s' h β D B W w L hL hr hfr
    have h' : fnR own X (run own X n) f l s = some (v, s') := h
    unfold fnR at h'
    cases hx : X f with
    | none => rw [hx] at h'; simp [M.no] at h'
    | some pf =>
      rw [hx] at h'
      refine ⟨hX.call f pf hx _ _, ?_⟩
      cases pf with
      | own k => exact hX.own f k hx l s v s' h' β D B W w L hL hr hfr
      | f body res =>
        simp only at h'
        obtain ⟨fn, hfn, hc⟩ := hX.walk f body res hx
        simp only [cF] at hc
        obtain ⟨c, hbody, hc⟩ := bi_some hc
        obtain ⟨b1, hb1, hc⟩ := bi_some hc
        obtain ⟨rs, hrs, hc⟩ := bi_some hc
        cases hc
        obtain ⟨xe, s1, h1, h2⟩ := bind_some h'
        obtain ⟨x, e1⟩ := xe
        have hLoc := Loc.run hown X n
        have hm1 := (Loc.coR hLoc _ _ _ _ _ h1).2.1
        have fin : x ≠ some (.exit 0) → (∀ id, x ≠ some (.exit id)) → M.bind (resL e1 res) (fun vs => M.pure (oneR vs)) s1 = some (v, s') → Calls P f L.toArray w fun e w' => ∃ β' D' V, e = .returned V ∧ Ext β D β' D' s.n.num s'.n.num ∧ Rel β' D' B W s'.h w' ∧ VR β' D' v V := by
          intro _ hnx h2
          obtain ⟨vs, s2, h3, h4⟩ := bind_some h2
          obtain ⟨rfl, rfl⟩ := pure_some h4
          have hm2 := (Loc.resL e1 res _ _ _ h3).2.1
          refine calls_of_wp hfn hbody ?_
          refine co_ok hY hmix (ih n (Nat.le_refl _)) hLoc c body β D s s1 (argE l) e1 x _ w _ hb1 h1 hr (argE_ok hL _) (hfr.left hm2) ?_
          intro β' D' a' w' hx hrel her
          obtain ⟨g1, Vs, g2, g3⟩ := res_ok hY _ _ _ _ _ hrs h3 hrel her
          obtain ⟨V, hV, hv⟩ := results_ok g3 g2
          have done : a'.defers = [] ∧ ∃ v_1, (results fn a'.tmps).run P w' = .ok v_1 w' ∧ ∃ β'_1 D'_1 V, Ending.returned v_1 = .returned V ∧ Ext β D β'_1 D'_1 s.n.num s'.n.num ∧ Rel β'_1 D'_1 B W s'.h w' ∧ VR β'_1 D'_1 (oneR vs) V :=
            ⟨her.defers, V, hV, β', D', V, rfl, by rw [g1.2]; exact hx, g1.rel hrel, hv⟩
          cases x with
          | none => exact done
          | some ex =>
            cases ex with
            | ret => exact done
            | exit id => exact absurd rfl (hnx id)
        cases x with
        | none => exact fin (by simp) (by simp) h2
        | some ex =>
          cases ex with
          | ret => exact fin (by simp) (by simp) h2
          | exit id => simp [M.no] at h2
end
end Ev
end Go.Proofs.Ytijnjnncgkhabaa
