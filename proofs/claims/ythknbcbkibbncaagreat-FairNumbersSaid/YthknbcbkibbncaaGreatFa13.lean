/- DERIVED. Functions: what the evaluator gives is what the model's call gives. -/
import Derived.Test.YthknbcbkibbncaaGreatFa6
import Derived.Test.YthknbcbkibbncaaGreatFa8
import Derived.Test.YthknbcbkibbncaaGreatFa12
set_option linter.all false
namespace Go.Proofs.YthknbcbkibbncaaGreat
namespace Ev
open Go.RowKit

section
variable {P : Program} {Y : Ty} {β : Id → CA} {D : Id → Prop} {B N : Nat} {W w : World} {s s' u : S} {e e' : Env} {a : Act} {F : Fns} {own : Nat → List AV → M AV} {X : Nat → Option PF}

/-- What a function that is taken whole must do. -/
def OwnOk (P : Program) (own : Nat → List AV → M AV) (k f : Nat) : Prop := ∀ l s v s', own k l s = some (v, s') → ∀ β D B W w L, VRs β D l L → Rel β D B W s.h w → Fresh D s.n.num s'.n.num →
  Calls P f L.toArray w fun e w' => ∃ β' D' V, e = .returned V ∧ Ext β D β' D' s.n.num s'.n.num ∧ Rel β' D' B W s'.h w' ∧ VR β' D' v V
/-- The table of functions fits the program. -/
structure TabOk (P : Program) (Y : Ty) (own : Nat → List AV → M AV) (X : Nat → Option PF) : Prop where
  call : ∀ f pf, X f = some pf → ∀ args w, (callFunc f args).run P w = .ok (.enter f args) w
  own : ∀ f k, X f = some (.own k) → OwnOk P own k f
  walk : ∀ f b r, X f = some (.f b r) → ∃ fn, P.funcs[f]? = some fn ∧ cF Y fn = some (.f b r)

theorem argE_ok {l : List AV} {L : List Value} (h : VRs β D l L) (n : Nat) : ER β D n (argE l) { tmps := L.toArray ++ Array.replicate (n - L.toArray.size) undef, defers := [] } := by
  refine ⟨by simp; omega, fun t => ?_, rfl⟩
  unfold argE
  simp only [Array.getD_eq_getD_getElem?]
  cases hl : l[t]? with
  | some v =>
    obtain ⟨V, hV, hv⟩ := h.get t v hl
    have ht : t < L.length := (List.getElem?_eq_some_iff.1 hV).1
    rw [Array.getElem?_append_left (by simpa using ht)]
    simp [hV]
    exact hv
  | none =>
    have ht : L.length ≤ t := by rw [h.length]; exact List.getElem?_eq_none_iff.1 hl
    rw [Array.getElem?_append_right (by simpa using ht), Array.getElem?_replicate]
    by_cases hq : t - L.toArray.size < n - L.toArray.size
    · rw [if_pos hq]; exact VR.und
    · rw [if_neg hq]; exact VR.und

theorem ld_at (hY : TyOk P Y) (hr : Rel β D B W s.h w) {t : TypeId} {d : TypeDesc} (ht : under Y t = some d) (hd : isAggD d = false) {x v : AV} {X : Value} (h : ldF x s = some (v, s')) (hx : VR β D x X) :
    Same s s' ∧ ∃ ad V, X = .pointer (some ad) ∧ VR β D v V ∧ (loadVar t ad).run P w = .ok V w := by
  cases x <;> first | (simp only [ldF, M.no] at h; cases h; done) | skip
  rename_i id off
  simp only [VR] at hx
  obtain ⟨did, rfl⟩ := hx
  obtain ⟨l, u, h1, h2⟩ := bind_some h
  obtain ⟨g1, g2, g3, Vs, g4, g5, g6, g7, g8⟩ := rd_ok hr.hr h1
  match l, h2, g3, g4 with
  | [y], h2, g3, g4 =>
    obtain ⟨rfl, rfl⟩ := pure_some h2
    obtain ⟨V, hV, hv⟩ := g4.get 0 v (by simp)
    have hagg : (isAgg t).run P w = .ok false w := by
      unfold isAgg
      rw [Sem.run_bind, run_underlying (under_ok hY ht)]
      cases d <;> simp_all [isAggD]
    have hc := g6 0 V hV
    simp only [Nat.add_zero] at hc
    exact ⟨⟨g1, g2⟩, _, V, rfl, hv, by simp [loadVar, hagg, run_load, hc]⟩
theorem ldn_at (hY : TyOk P Y) (hr : Rel β D B W s.h w) {t : TypeId} {d : TypeDesc} {m : Nat} (ht : under Y t = some d) (hd : isAggD d = true) (hm : sizeT Y t = some m) {x v : AV} {X : Value} (h : ldnF m x s = some (v, s')) (hx : VR β D x X) :
    Same s s' ∧ ∃ ad V, X = .pointer (some ad) ∧ VR β D v V ∧ (loadVar t ad).run P w = .ok V w := by
  cases x <;> first | (simp only [ldnF, M.no] at h; cases h; done) | skip
  rename_i id off
  simp only [VR] at hx
  obtain ⟨did, rfl⟩ := hx
  obtain ⟨l, u, h1, h2⟩ := bind_some h
  obtain ⟨g1, g2, g3, Vs, g4, g5, g6, g7, g8⟩ := rd_ok hr.hr h1
  obtain ⟨rfl, rfl⟩ := pure_some h2
  have hagg : (isAgg t).run P w = .ok true w := by
    unfold isAgg
    rw [Sem.run_bind, run_underlying (under_ok hY ht)]
    cases d <;> simp_all [isAggD]
  have hl := run_loadCells_list (P := P) w ⟨(β id).blk, (β id).base + off, none⟩ Vs (fun j V hV => by
    rw [add_at]
    exact g6 j V hV)
  rw [g5] at hl
  exact ⟨⟨g1, g2⟩, _, .agg Vs.toArray, rfl, by simp only [VR]; exact ⟨Vs, rfl, g4, g8⟩, by simp [loadVar, hagg, size_ok hY hm, hl]⟩
/-- a result's value -/
def resV (a : Act) (r : ResultVar) : Sem Value := match r with
  | .tmp t => pure (a.tmps.getD t undef)
  | .cell c t => do loadVar t (← asAddr (a.tmps.getD c undef))
theorem res_ok (hY : TyOk P Y) : ∀ (l : List ResultVar) (rs : List PR) (s s' : S) (vs : List AV), cRs Y l = some rs → resL e rs s = some (vs, s') → Rel β D B W s.h w → ER β D N e a →
    Same s s' ∧ ∃ Vs : List Value, VRs β D vs Vs ∧ (l.mapM (resV a)).run P w = .ok Vs w
  | [], rs, s, s', vs, hc, h, hr, he => by
    simp only [cRs] at hc
    cases hc
    obtain ⟨rfl, rfl⟩ := pure_some h
    exact ⟨⟨rfl, rfl⟩, [], VRs.nil, by simp [Sem.run_pure]⟩
  | r :: l, rs, s, s', vs, hc, h, hr, he => by
    simp only [cRs] at hc
    obtain ⟨pr, hpr, hc⟩ := bi_some hc
    obtain ⟨rs', hrs, hc⟩ := bi_some hc
    cases hc
    cases r with
    | tmp t =>
      simp only [cR] at hpr
      cases hpr
      obtain ⟨vs', s1, h1, h2⟩ := bind_some h
      obtain ⟨rfl, rfl⟩ := pure_some h2
      obtain ⟨g1, Vs, g2, g3⟩ := res_ok hY l rs' s _ vs' hrs h1 hr he
      refine ⟨g1, a.tmps.getD t undef :: Vs, VRs.cons (he.at_ t) g2, ?_⟩
      rw [List.mapM_cons, Sem.run_bind]
      simp only [resV, Sem.run_pure, Result.andThen_ok]
      rw [Sem.run_bind, g3]
      rfl
    | cell c t =>
      simp only [cR] at hpr
      obtain ⟨d, hd, hpr⟩ := bi_some hpr
      obtain ⟨m, hm, hpr⟩ := bi_some hpr
      have hv := he.at_ c
      have fin : ∀ {v : AV} {s1 : S} {vs' : List AV}, (Same s s1 ∧ ∃ ad V, a.tmps.getD c undef = .pointer (some ad) ∧ VR β D v V ∧ (loadVar t ad).run P w = .ok V w) → resL e rs' s1 = some (vs', s') → vs = v :: vs' →
          Same s s' ∧ ∃ Vs : List Value, VRs β D vs Vs ∧ ((ResultVar.cell c t :: l).mapM (resV a)).run P w = .ok Vs w := by
        rintro v s1 vs' ⟨hs1, ad, V, hX, hV, hld⟩ h2 rfl
        obtain ⟨g1, Vs, g2, g3⟩ := res_ok hY l rs' s1 s' vs' hrs h2 (hs1.rel hr) he
        refine ⟨⟨g1.1.trans hs1.1, g1.2.trans hs1.2⟩, V :: Vs, VRs.cons hV g2, ?_⟩
        rw [List.mapM_cons, Sem.run_bind]
        have : (resV a (.cell c t)).run P w = .ok V w := by
          simp only [resV, hX, asAddr, Sem.run_bind, Sem.run_pure, Result.andThen_ok, hld]
        rw [this]
        simp only [Result.andThen_ok]
        rw [Sem.run_bind, g3]
        rfl
      cases hagg : isAggD d <;> rw [hagg] at hpr <;> simp only at hpr <;> cases hpr
      · obtain ⟨v, s1, h1, h2⟩ := bind_some h
        obtain ⟨vs', s2, h3, h4⟩ := bind_some h2
        obtain ⟨rfl, rfl⟩ := pure_some h4
        exact fin (ld_at hY hr hd hagg h1 hv) h3 rfl
      · obtain ⟨v, s1, h1, h2⟩ := bind_some h
        obtain ⟨vs', s2, h3, h4⟩ := bind_some h2
        obtain ⟨rfl, rfl⟩ := pure_some h4
        exact fin (ldn_at hY hr hd hagg hm h1 hv) h3 rfl
theorem results_ok {fn : Func} {Vs : List Value} {vs : List AV} (h : (fn.results.toList.mapM (resV a)).run P w = .ok Vs w) (hv : VRs β D vs Vs) : ∃ V, (results fn a.tmps).run P w = .ok V w ∧ VR β D (oneR vs) V := by
  have hm : (fn.results.mapM (resV a)).run P w = .ok Vs.toArray w := by
    rw [Array.mapM_eq_mapM_toList, Sem.run_map, h]
    rfl
  have hres : (results fn a.tmps).run P w = .ok (if h : Vs.toArray.size = 1 then Vs.toArray[0] else .tuple Vs.toArray) w := by
    have e : results fn a.tmps = (fn.results.mapM (resV a)) >>= fun vs => pure (if h : vs.size = 1 then vs[0] else .tuple vs) := by
      unfold results
      congr 1
    rw [e, Sem.run_bind, hm]
    rfl
  refine ⟨_, hres, ?_⟩
  have hl := hv.length
  match vs, Vs, hv, hl with
  | [], [], hv, _ => simp only [oneR, VR]; exact ⟨[], by simp, VRs.nil⟩
  | [x], [V], hv, _ =>
    simp only [oneR]
    simp only [VRs] at hv
    obtain ⟨V', Vs', e, h1, h2⟩ := hv
    cases e
    simpa using h1
  | x :: y :: vs, V :: V' :: Vs, hv, _ =>
    simp only [oneR, VR]
    exact ⟨V :: V' :: Vs, by simp, hv⟩

/-- EVERY CALL THAT THE EVALUATOR CARRIES OUT IS CARRIED OUT SO BY THE MODEL. -/
theorem run_ok (hY : TyOk P Y) (hmix : P.follows .mixedOrders = true) (hown : ∀ k l, Loc (own k l)) (hX : TabOk P Y own X) : ∀ n, ∀ m, m ≤ n → FnOk P (run own X m) := by
  intro n
  induction n with
  | zero =>
    intro m hm f l s v s' h
    obtain rfl : m = 0 := by omega
    simp [run, M.no] at h
  | succ n ih =>
    intro m hm
    rcases Nat.lt_or_ge m (n + 1) with hlt | hge
    · exact ih m (by omega)
    obtain rfl : m = n + 1 := by omega
    intro f l s v s' h β D B W w L hL hr hfr
    have h' : fnR own X (run own X n) f l s = some (v, s') := h
    unfold fnR at h'
    cases hx : X f with
    | none => rw [hx] at h'; simp [M.no] at h'
    | some pf =>
      rw [hx] at h'
      refine ⟨hX.call f pf hx _ _, ?_⟩
      cases pf with
      | own k => exact hX.own f k hx l s v s' h' β D B W w L hL hr hfr
      | f body res =>
        simp only at h'
        obtain ⟨fn, hfn, hc⟩ := hX.walk f body res hx
        simp only [cF] at hc
        obtain ⟨c, hbody, hc⟩ := bi_some hc
        obtain ⟨b1, hb1, hc⟩ := bi_some hc
        obtain ⟨rs, hrs, hc⟩ := bi_some hc
        cases hc
        obtain ⟨xe, s1, h1, h2⟩ := bind_some h'
        obtain ⟨x, e1⟩ := xe
        have hLoc := Loc.run hown X n
        have hm1 := (Loc.coR hLoc _ _ _ _ _ h1).2.1
        have fin : x ≠ some (.exit 0) → (∀ id, x ≠ some (.exit id)) → M.bind (resL e1 res) (fun vs => M.pure (oneR vs)) s1 = some (v, s') → Calls P f L.toArray w fun e w' => ∃ β' D' V, e = .returned V ∧ Ext β D β' D' s.n.num s'.n.num ∧ Rel β' D' B W s'.h w' ∧ VR β' D' v V := by
          intro _ hnx h2
          obtain ⟨vs, s2, h3, h4⟩ := bind_some h2
          obtain ⟨rfl, rfl⟩ := pure_some h4
          have hm2 := (Loc.resL e1 res _ _ _ h3).2.1
          refine calls_of_wp hfn hbody ?_
          refine co_ok hY hmix (ih n (Nat.le_refl _)) hLoc c body β D s s1 (argE l) e1 x _ w _ hb1 h1 hr (argE_ok hL _) (hfr.left hm2) ?_
          intro β' D' a' w' hx hrel her
          obtain ⟨g1, Vs, g2, g3⟩ := res_ok hY _ _ _ _ _ hrs h3 hrel her
          obtain ⟨V, hV, hv⟩ := results_ok g3 g2
          have done : a'.defers = [] ∧ ∃ v_1, (results fn a'.tmps).run P w' = .ok v_1 w' ∧ ∃ β'_1 D'_1 V, Ending.returned v_1 = .returned V ∧ Ext β D β'_1 D'_1 s.n.num s'.n.num ∧ Rel β'_1 D'_1 B W s'.h w' ∧ VR β'_1 D'_1 (oneR vs) V :=
            ⟨her.defers, V, hV, β', D', V, rfl, by rw [g1.2]; exact hx, g1.rel hrel, hv⟩
          cases x with
          | none => exact done
          | some ex =>
            cases ex with
            | ret => exact done
            | exit id => exact absurd rfl (hnx id)
        cases x with
        | none => exact fin (by simp) (by simp) h2
        | some ex =>
          cases ex with
          | ret => exact fin (by simp) (by simp) h2
          | exit id => simp [M.no] at h2
end
end Ev
end Go.Proofs.YthknbcbkibbncaaGreat

/- DERIVED. A closed call whose answer the evaluator finds true. -/
namespace Go.Proofs.YthknbcbkibbncaaGreat
namespace Ev
open Go.RowKit

/-- empty memory -/
def S0 : S := ⟨false, fun _ => none, Id.zero, [], []⟩

theorem rel_empty (w : World) : Rel (fun _ => ⟨0, 0, 0⟩) (fun _ => False) w.heap.size w S0.h w :=
  ⟨⟨fun id k h => (nomatch h), fun i j h => absurd rfl h, fun id h => h.elim, Nat.le_refl _⟩, Below.refl _ _⟩

/-- A CLOSED CALL: the evaluator's answer is the model's, and nothing that was there is written. -/
theorem closed_ok {P : Program} {Y : Ty} {own : Nat → List AV → M AV} {X : Nat → Option PF} (hY : TyOk P Y) (hmix : P.follows .mixedOrders = true) (hown : ∀ k l, Loc (own k l)) (hX : TabOk P Y own X)
    {n f : Nat} {x : Bool} {s' : S} (h : (run own X n).fn f [] S0 = some (.b x, s')) (w : World) :
    Calls P f #[] w fun e w' => e = .returned (.bool x) ∧ Below w.heap.size w w' := by
  have h1 := (run_ok hY hmix hown hX n n (Nat.le_refl _) f [] S0 _ _ h (fun _ => ⟨0, 0, 0⟩) (fun _ => False) w.heap.size w w [] VRs.nil (rel_empty w) (fun _ _ _ h => h)).2
  refine h1.mono ?_
  rintro e w' ⟨β', D', V, rfl, hx, hr, hv⟩
  simp only [VR] at hv
  subst hv
  exact ⟨rfl, hr.bel⟩
end Ev
end Go.Proofs.YthknbcbkibbncaaGreat

/- DERIVED. The quick evaluator's code and functions, against the plain one's. -/
set_option linter.unusedVariables false
namespace Go.Proofs.YthknbcbkibbncaaGreat
namespace Ev
namespace Kq

theorem dgs_val {n : Nat} {d : Dg} (h : dgs n = some d) : n = d.val := by
  unfold dgs at h
  split at h <;> cases h <;> rfl
theorem dgs_lt {n : Nat} {d : Dg} (h : dgs n = some d) : n < 8 := by
  rw [dgs_val h]; exact d.val_lt
/-- slots agree -/
def RE (e : E) (e' : Env) : Prop := ∀ n, (gtS n).g e = e' n
theorem gtS_eq {n : Nat} {a b c : Dg} (ha : dgs (n / 64) = some a) (hb : dgs (n / 8 % 8) = some b) (hc : dgs (n % 8) = some c) (e : E) :
    (gtS n).g e = match Nat.blt n 8 with
      | true => gt c e.lo
      | false => match Nat.blt n 64 with
        | true => gt c (gt b e.md)
        | false => gt c (gt b (gt a e.hi)) := by
  unfold gtS
  rw [ha, hb, hc]
  cases Nat.blt n 8 <;> cases Nat.blt n 64 <;> rfl
/-- slots with one of them written -/
noncomputable def pE (d : Nat) (a b c : Dg) (v : AV) (e : E) : E := match Nat.blt d 8 with
  | true => ⟨up c (fun _ => v) e.lo, e.md, e.hi⟩
  | false => match Nat.blt d 64 with
    | true => ⟨e.lo, up b (up c fun _ => v) e.md, e.hi⟩
    | false => ⟨e.lo, e.md, up a (up b (up c fun _ => v)) e.hi⟩
theorem us1 (c : Dg) (v : AV) (t : N8 AV) (k : N8 AV → Bool) : (us c).f AV (fun _ k => k v) t k = k (up c (fun _ => v) t) := us_eq c (f' := fun _ => v) (fun _ _ => rfl) t k
theorem us2 (b c : Dg) (v : AV) (t : N8 (N8 AV)) (k : N8 (N8 AV) → Bool) : (us b).f (N8 AV) (fun t k => (us c).f AV (fun _ k => k v) t k) t k = k (up b (up c fun _ => v) t) := us_eq b (fun t k => us1 c v t k) t k
theorem us3 (a b c : Dg) (v : AV) (t : N8 (N8 (N8 AV))) (k : N8 (N8 (N8 AV)) → Bool) : (us a).f (N8 (N8 AV)) (fun t k => (us b).f (N8 AV) (fun t k => (us c).f AV (fun _ k => k v) t k) t k) t k = k (up a (up b (up c fun _ => v)) t) := us_eq a (fun t k => us2 b c v t k) t k
theorem ptS_eq {d : Nat} {p : P} (h : ptS d = some p) : ∃ a b c, dgs (d / 64) = some a ∧ dgs (d / 8 % 8) = some b ∧ dgs (d % 8) = some c ∧ ∀ v e k, p.p v e k = k (pE d a b c v e) := by
  unfold ptS at h
  cases ha : dgs (d / 64) with
  | none => rw [ha] at h; cases h
  | some a =>
    cases hb : dgs (d / 8 % 8) with
    | none => rw [ha, hb] at h; cases h
    | some b =>
      cases hc : dgs (d % 8) with
      | none => rw [ha, hb, hc] at h; cases h
      | some c =>
        rw [ha, hb, hc] at h
        refine ⟨a, b, c, rfl, rfl, rfl, fun v e k => ?_⟩
        unfold pE
        cases h8 : Nat.blt d 8 <;> rw [h8] at h
        · cases h64 : Nat.blt d 64 <;> rw [h64] at h
          · cases h; exact us3 a b c v e.hi fun hi => k ⟨e.lo, e.md, hi⟩
          · cases h; exact us2 b c v e.md fun md => k ⟨e.lo, md, e.hi⟩
        · cases h; exact us1 c v e.lo fun lo => k ⟨lo, e.md, e.hi⟩
theorem blt_t {a b : Nat} (h : Nat.blt a b = true) : a < b := Nat.le_of_ble_eq_true h
theorem blt_f {a b : Nat} (h : Nat.blt a b = false) : b ≤ a := by
  rcases Nat.lt_or_ge a b with h' | h'
  · have : Nat.blt a b = true := Nat.ble_eq_true_of_le h'
    rw [this] at h; cases h
  · exact h'
theorem gt_pE {d : Nat} {a b c : Dg} (ha : dgs (d / 64) = some a) (hb : dgs (d / 8 % 8) = some b) (hc : dgs (d % 8) = some c) (n : Nat) (v : AV) (e : E) : (gtS n).g (pE d a b c v e) = if n = d then v else (gtS n).g e := by
  unfold pE
  have e1 := dgs_val ha; have e2 := dgs_val hb; have e3 := dgs_val hc
  by_cases hn : n = d
  · subst hn
    rw [if_pos rfl, gtS_eq ha hb hc]
    cases Nat.blt n 8 <;> cases Nat.blt n 64 <;> simp only [gt_up]
  · rw [if_neg hn]
    cases ha' : dgs (n / 64) with
    | none => unfold gtS; rw [ha']
    | some a' =>
      cases hb' : dgs (n / 8 % 8) with
      | none => unfold gtS; rw [ha', hb']
      | some b' =>
        cases hc' : dgs (n % 8) with
        | none => unfold gtS; rw [ha', hb', hc']
        | some c' =>
          have f1 := dgs_val ha'; have f2 := dgs_val hb'; have f3 := dgs_val hc'
          rw [gtS_eq ha' hb' hc', gtS_eq ha' hb' hc']
          cases h8 : Nat.blt n 8 <;> cases g8 : Nat.blt d 8 <;> dsimp only
          · cases h64 : Nat.blt n 64 <;> cases g64 : Nat.blt d 64 <;> dsimp only
            · by_cases h1 : a' = a
              · subst h1
                rw [gt_up]
                by_cases h2 : b' = b
                · subst h2
                  rw [gt_up]
                  by_cases h3 : c' = c
                  · subst h3
                    exact absurd (by omega) hn
                  · rw [gt_up_ne _ _ h3]
                · rw [gt_up_ne _ _ h2]
              · rw [gt_up_ne _ _ h1]
            · by_cases h2 : b' = b
              · subst h2
                rw [gt_up]
                by_cases h3 : c' = c
                · subst h3
                  have := blt_t h64; have := blt_t g64
                  exact absurd (by omega) hn
                · rw [gt_up_ne _ _ h3]
              · rw [gt_up_ne _ _ h2]
          · cases Nat.blt d 64 <;> rfl
          · by_cases h3 : c' = c
            · subst h3
              have := blt_t h8; have := blt_t g8
              exact absurd (by omega) hn
            · rw [gt_up_ne _ _ h3]
/-- slots agree, but for those that are kept on the stack alone -/
def RED (D : Nat) (e : E) (e' : Env) : Prop := ∀ n, Nat.testBit D n = false → (gtS n).g e = e' n
theorem ptS_put {t : Nat} {p : P} (hp : ptS t = some p) (v : AV) (e : E) {k : E → Bool} (hk : p.p v e k = true) : ∃ e1, k e1 = true ∧ ∀ n, (gtS n).g e1 = if n = t then v else (gtS n).g e := by
  obtain ⟨a, b, c, ha, hb, hc, he⟩ := ptS_eq hp
  rw [he] at hk
  exact ⟨_, hk, fun n => gt_pE ha hb hc n v e⟩
theorem RED.put {D : Nat} {e : E} {e' : Env} (h : RED D e e') {d : Option Nat} {p : P} (hp : pD d = some p) (v : AV) {k : E → Bool} (hk : p.p v e k = true) : ∃ e1, k e1 = true ∧ RED D e1 (putO d v e') := by
  cases d with
  | none =>
    simp only [pD] at hp
    cases hp
    exact ⟨e, hk, h⟩
  | some t =>
    simp only [pD] at hp
    obtain ⟨e1, h1, h2⟩ := ptS_put hp v e hk
    refine ⟨e1, h1, fun n hn => ?_⟩
    rw [h2 n]
    simp only [putO]
    rw [h n hn]
theorem gA_ok {e : E} {e' : Env} (h : RE e e') (x : Arg) : (gA x).g e = arg x e' := by
  cases x with
  | t n => exact h n
  | c v => rfl
theorem gL_ok {e : E} {e' : Env} (h : RE e e') : ∀ l : List Arg, (gL l).g e = args l e'
  | [] => rfl
  | x :: l => by
    show (gA x).g e :: (gL l).g e = _
    simp only [args, List.map_cons, gA_ok h, gL_ok h l]
theorem gO_ok {e : E} {e' : Env} (h : RE e e') (x : Option Arg) : (gO x).g e = argO x e' := by
  cases x with
  | none => rfl
  | some x =>
    show some ((gA x).g e) = _
    simp only [argO, gA_ok h]
theorem gF_ok {e : E} {e' : Env} (h : RE e e') : ∀ (ps : List Part) (cs : List AV), (gF ps).f e cs = fillL e' ps cs
  | [], cs => rfl
  | p :: ps, cs => by
    simp only [gF, fillL, gA_ok h]
    cases (arg p.x e').cells with
    | none => rfl
    | some l =>
      dsimp only
      cases (Nat.beq l.length p.m && Nat.ble (p.off + p.m) cs.length) with
      | false => rfl
      | true => exact gF_ok h ps _
theorem setL_length {l cs : List AV} {k : Nat} (h : k + l.length ≤ cs.length) : (setL l cs k).length = cs.length := by
  simp [setL]; omega
/-- parts into a tree, and into a list -/
theorem gT_ok {e : E} {e' : Env} (h : RE e e') {n : Nat} : ∀ (ps : List Part) (cs : List AV) (t : Tr) (k : Tr → Bool), cs.length = n → (gT n ps).f e t k = true →
    ∃ cs' t', fillL e' ps cs = some cs' ∧ cs'.length = n ∧ capT t' = capT t ∧ (n ≤ capT t → getL n t 0 = cs → getL n t' 0 = cs') ∧ k t' = true
  | [], cs, t, k, hn, hk => ⟨cs, t, rfl, hn, rfl, fun _ x => x, hk⟩
  | p :: ps, cs, t, k, hn, hk => by
    cases hb : Nat.ble (p.off + p.m) n with
    | false =>
      unfold gT at hk
      rw [hb] at hk
      cases hk
    | true =>
      have hle := Nat.le_of_ble_eq_true hb
      have step : ∀ l : List AV, (arg p.x e').cells = some l → l.length = p.m → (gT n ps).f e (pT1 l t p.off) k = true →
          ∃ cs' t', fillL e' (p :: ps) cs = some cs' ∧ cs'.length = n ∧ capT t' = capT t ∧ (n ≤ capT t → getL n t 0 = cs → getL n t' 0 = cs') ∧ k t' = true := by
        intro l hl hlen hk
        obtain ⟨cs', t', h1, h2, h3, h4, h5⟩ := gT_ok h ps (setL l cs p.off) _ k (by rw [setL_length (by omega)]; exact hn) hk
        refine ⟨cs', t', ?_, h2, h3.trans (capT_put _ _ _), fun hc hg => h4 (by rw [capT_put]; exact hc) ?_, h5⟩
        · simp only [fillL, hl]
          rw [hlen, hn, hb, Nat.beq_refl]
          exact h1
        · rw [getL_put hc (by omega), hg]
          rfl
      unfold gT at hk
      rw [hb] at hk
      cases h1 : Nat.beq p.m 1 with
      | true =>
        rw [h1] at hk
        change cellsK p.m ((gA p.x).g e) (fun l => setT t p.off (hdL l) fun t => (gT n ps).f e t k) = true at hk
        obtain ⟨l, hl, hm, hk⟩ := cellsK_some hk
        rw [setT_eq] at hk
        rw [gA_ok h] at hl
        refine step l hl hm ?_
        have hm1 := Nat.eq_of_beq_eq_true h1
        match l, hm.trans hm1 with
        | [v], _ => exact hk
      | false =>
        rw [h1] at hk
        change cellsK p.m ((gA p.x).g e) (fun l => Kq.putL l t p.off fun t => (gT n ps).f e t k) = true at hk
        obtain ⟨l, hl, hm, hk⟩ := cellsK_some hk
        rw [putL_eq] at hk
        rw [gA_ok h] at hl
        exact step l hl hm hk
/-- functions agree -/
def RF (F : Fn) (F' : Fns) : Prop := ∀ f l, Ref Eq (F.fn f l) (F'.fn f l)
section
variable {F : Fn} {F' : Fns} {e : E} {e' : Env}
theorem Ref.callF (hF : RF F F') (f : AV) (l : List AV) : Ref Eq (Kq.callF F f l) (Ev.callF F' f l) := by
  cases f <;> first | exact Ref.no | skip
  rename_i fn first cap
  show Ref Eq (F.fn fn (apL first (List.rec (motive := fun _ => List AV → List AV) (fun l => l) (fun v m _ l => apL l (v :: m)) cap l))) (F'.fn fn (first ++ (l ++ cap)))
  have hc : (List.rec (motive := fun _ => List AV → List AV) (fun l => l) (fun v m _ l => apL l (v :: m)) cap l : List AV) = l ++ cap := by
    cases cap with
    | nil => exact (List.append_nil l).symm
    | cons v m => exact apL_eq _ _
  rw [hc, apL_eq]
  exact hF _ _
theorem dO_st (m : Nat) (a v : Arg) : dO (.st m a v) = match Nat.beq m 1 with
    | true => ⟨fun _ e s k => st1F ((gA a).g e) ((gA v).g e) s k⟩
    | false => ⟨fun _ e s k => stnF m ((gA a).g e) ((gA v).g e) s k⟩ := rfl
theorem dO_ok (hF : RF F F') (h : RE e e') (o : PO) : Ref Eq ((dO o).v F e) (poR o F' e') := by
  cases o with
  | mv x =>
    show Ref Eq (M.pure ((gA x).g e)) (Ev.M.pure (arg x e'))
    rw [gA_ok h]; exact Ref.ret _
  | pick c a b =>
    show Ref Eq (Kq.pickF ((gA c).g e) ((gA a).g e) ((gA b).g e)) (Ev.pickF (arg c e') (arg a e') (arg b e'))
    rw [gA_ok h, gA_ok h, gA_ok h]; exact Ref.pickF _ _ _
  | new z cs => exact Ref.newF z cs
  | box z x =>
    show Ref Eq (Kq.boxF z ((gA x).g e)) (Ev.M.ofO (arg x e').cells fun l => Ev.newF z l)
    rw [gA_ok h]; exact Ref.boxF _ _
  | build cs ps =>
    show Ref Eq (M.ofO ((gF ps).f e cs) fun l => M.pure (AV.ag l)) (Ev.M.ofO (fillL e' ps cs) fun l => Ev.M.pure (AV.ag l))
    rw [gF_ok h]; exact Ref.ofO fun _ _ => Ref.ret _
  | bsl z cs len ps =>
    intro t s k hs hk
    change (gT (lnL cs) ps).f e (clT cs) (fun t1 => Kq.newT (zc z true true) (lnL cs) t1 t fun id s => k (.sl id 0 len len) s) = true at hk
    rw [lnL_eq] at hk
    obtain ⟨cs', t', h1, h2, h3, h4, h5⟩ := gT_ok h ps cs _ _ rfl hk
    have h6 : Ref Eq (M.bind (Kq.newT (zc z true true) cs.length t') fun id => M.pure (.sl id 0 len len)) (Ev.bslF z len cs') :=
      Ref.eqv (Ref.newT h2.symm fun hc => h4 (by rw [← h3]; exact hc) (toT_ok cs (by rw [← h3]; exact hc))) fun _ => Ref.ret _
    show ∃ a b t' s', Ev.M.ofO (fillL e' ps cs) (fun l => Ev.bslF z len l) s = some (b, s') ∧ _
    rw [h1]
    exact h6 t s k hs h5
  | ld1 a =>
    show Ref Eq (Kq.ldF ((gA a).g e)) (Ev.ldF (arg a e'))
    rw [gA_ok h]; exact Ref.ldF _
  | ldn m a =>
    show Ref Eq (Kq.ldnF m ((gA a).g e)) (Ev.ldnF m (arg a e'))
    rw [gA_ok h]; exact Ref.ldnF _ _
  | st m a v =>
    rw [dO_st]
    cases hb : Nat.beq m 1 with
    | true =>
      obtain rfl := Nat.eq_of_beq_eq_true hb
      show Ref Eq (Kq.st1F ((gA a).g e) ((gA v).g e)) (Ev.stF 1 (arg a e') (arg v e'))
      rw [gA_ok h, gA_ok h]; exact Ref.st1F _ _
    | false =>
      show Ref Eq (Kq.stnF m ((gA a).g e) ((gA v).g e)) (Ev.stF m (arg a e') (arg v e'))
      rw [gA_ok h, gA_ok h]; exact Ref.stnF _ _ _
  | nilc x =>
    show Ref Eq (Kq.nilF ((gA x).g e)) (Ev.nilF (arg x e'))
    rw [gA_ok h]; exact Ref.nilF _
  | bin o x y =>
    show Ref Eq ((dB o).v ((gA x).g e) ((gA y).g e)) (Ev.binF o (arg x e') (arg y e'))
    rw [gA_ok h, gA_ok h]; exact Ref.dB _ _ _
  | eq kd ng x y =>
    show Ref Eq (Kq.eqN kd ng ((gA x).g e) ((gA y).g e)) (Ev.eqN kd ng (arg x e') (arg y e'))
    rw [gA_ok h, gA_ok h]; exact Ref.eqN _ _ _ _
  | un o x =>
    have key : Ref Eq (M.ofO (unF o ((gA x).g e)) M.pure) (Ev.M.ofO (unF o (arg x e')) Ev.M.pure) := by
      rw [gA_ok h]; exact Ref.opt _
    cases o <;> first
      | exact key
      | (show Ref Eq (Kq.notF ((gA x).g e)) (Ev.M.ofO (unF .not (arg x e')) Ev.M.pure)
         rw [gA_ok h]; exact Ref.notF _)
  | cvi k x =>
    show Ref Eq (Kq.cviF k ((gA x).g e)) (Ev.cviF k (arg x e'))
    rw [gA_ok h]; exact Ref.cviF _ _
  | cvs x =>
    show Ref Eq (Kq.cvsF ((gA x).g e)) (Ev.cvsF (arg x e'))
    rw [gA_ok h]; exact Ref.cvsF _
  | cvb x =>
    show Ref Eq (Kq.cvbF ((gA x).g e)) (Ev.cvbF (arg x e'))
    rw [gA_ok h]; exact Ref.cvbF _
  | cvt x =>
    show Ref Eq (Kq.cvtF ((gA x).g e)) (Ev.cvtF (arg x e'))
    rw [gA_ok h]; exact Ref.cvtF _
  | cvm x =>
    show Ref Eq (Kq.cvmF ((gA x).g e)) (Ev.cvmF (arg x e'))
    rw [gA_ok h]; exact Ref.cvmF _
  | mkf fn a b =>
    show Ref Eq (M.pure (AV.f fn ((gL a).g e) ((gL b).g e))) (Ev.M.pure (AV.f fn (args a e') (args b e')))
    rw [gL_ok h, gL_ok h]; exact Ref.ret _
  | mks z cs l c =>
    show Ref Eq (Kq.mksF z cs ((gA l).g e) ((gA c).g e)) (Ev.mksF z cs (arg l e') (arg c e'))
    rw [gA_ok h, gA_ok h]; exact Ref.mksF _ _ _ _
  | sls w x lo hi mx =>
    show Ref Eq (M.ofO (slsF w ((gA x).g e) ((gO lo).g e) ((gO hi).g e) ((gO mx).g e)) M.pure) (Ev.M.ofO (slsF w (arg x e') (argO lo e') (argO hi e') (argO mx e')) Ev.M.pure)
    rw [gA_ok h, gO_ok h, gO_ok h, gO_ok h]; exact Ref.opt _
  | sla w n x lo hi mx =>
    show Ref Eq (M.ofO (slaF w n ((gA x).g e) ((gO lo).g e) ((gO hi).g e) ((gO mx).g e)) M.pure) (Ev.M.ofO (slaF w n (arg x e') (argO lo e') (argO hi e') (argO mx e')) Ev.M.pure)
    rw [gA_ok h, gO_ok h, gO_ok h, gO_ok h]; exact Ref.opt _
  | slt x lo hi =>
    show Ref Eq (M.ofO (sltF ((gA x).g e) ((gO lo).g e) ((gO hi).g e)) M.pure) (Ev.M.ofO (sltF (arg x e') (argO lo e') (argO hi e')) Ev.M.pure)
    rw [gA_ok h, gO_ok h, gO_ok h]; exact Ref.opt _
  | fad off x =>
    show Ref Eq (Kq.fadF off ((gA x).g e)) (Ev.fadF off (arg x e'))
    rw [gA_ok h]; exact Ref.fadF _ _
  | ixa n w x i =>
    show Ref Eq (Kq.ixaF n w ((gA x).g e) ((gA i).g e)) (Ev.ixaF n w (arg x e') (arg i e'))
    rw [gA_ok h, gA_ok h]; exact Ref.ixaF _ _ _ _
  | ixs w x i =>
    show Ref Eq (Kq.ixsF w ((gA x).g e) ((gA i).g e)) (Ev.ixsF w (arg x e') (arg i e'))
    rw [gA_ok h, gA_ok h]; exact Ref.ixsF _ _ _
  | ext x j =>
    show Ref Eq (Kq.extK (dX j) ((gA x).g e)) (Ev.extF (arg x e') j)
    rw [gA_ok h]; exact Ref.extF _ _
  | calv f l =>
    show Ref Eq (Kq.callF F ((gA f).g e) ((gL l).g e)) (Ev.callF F' (arg f e') (args l e'))
    rw [gA_ok h, gL_ok h]; exact Ref.callF hF _ _
  | app z w s x =>
    show Ref Eq (Kq.appF z w ((gA s).g e) ((gA x).g e)) (Ev.appF z w (arg s e') (arg x e'))
    rw [gA_ok h, gA_ok h]; exact Ref.appF _ _ _ _
  | apz z w cs s x =>
    show Ref Eq (Kq.apzF z w cs ((gA s).g e) ((gA x).g e)) (Ev.apzF z w cs (arg s e') (arg x e'))
    rw [gA_ok h, gA_ok h]; exact Ref.apzF _ _ _ _ _
  | cpy w d x =>
    show Ref Eq (Kq.cpyF w ((gA d).g e) ((gA x).g e)) (Ev.cpyF w (arg d e') (arg x e'))
    rw [gA_ok h, gA_ok h]; exact Ref.cpyF _ _ _
  | clr cs d =>
    show Ref Eq (Kq.clrF cs ((gA d).g e)) (Ev.clrF cs (arg d e'))
    rw [gA_ok h]; exact Ref.clrF _ _
  | len x =>
    show Ref Eq (Kq.lenK ((gA x).g e)) (Ev.M.ofO (lenF (arg x e')) Ev.M.pure)
    rw [gA_ok h]; exact Ref.lenK _
  | lns x =>
    show Ref Eq (M.ofO (lnsF ((gA x).g e)) M.pure) (Ev.M.ofO (lnsF (arg x e')) Ev.M.pure)
    rw [gA_ok h]; exact Ref.opt _
  | cap x =>
    show Ref Eq (M.ofO (capF ((gA x).g e)) M.pure) (Ev.M.ofO (capF (arg x e')) Ev.M.pure)
    rw [gA_ok h]; exact Ref.opt _
  | mm mx x l =>
    show Ref Eq (M.ofO (mmF mx ((gA x).g e) ((gL l).g e)) M.pure) (Ev.M.ofO (mmF mx (arg x e') (args l e')) Ev.M.pure)
    rw [gA_ok h, gL_ok h]; exact Ref.opt _
  | mkm => exact Ref.mkmF
  | lkm q z o x k =>
    show Ref Eq (fun s c => fo2 ((gA k).g e) fun k => Kq.lkF q z o ((gA x).g e) k s c) (Ev.lkF q z o (arg x e') (arg k e'))
    simp only [fo2_eq, gA_ok h]; exact Ref.lkF _ _ _ _ _
  | mup q x k v =>
    show Ref Eq (fun s c => fo2 ((gA k).g e) fun k => fo2 ((gA v).g e) fun v => Kq.mupF q ((gA x).g e) k v s c) (Ev.mupF q (arg x e') (arg k e') (arg v e'))
    simp only [fo2_eq, gA_ok h]; exact Ref.mupF _ _ _ _
  | del q x k =>
    show Ref Eq (fun s c => fo2 ((gA k).g e) fun k => Kq.delF q ((gA x).g e) k s c) (Ev.delF q (arg x e') (arg k e'))
    simp only [fo2_eq, gA_ok h]; exact Ref.delF _ _ _
  | lnm x =>
    show Ref Eq (Kq.lnmF ((gA x).g e)) (Ev.lnmF (arg x e'))
    rw [gA_ok h]; exact Ref.lnmF _
  | men q z x k =>
    show Ref Eq (fun s c => fo2 ((gA k).g e) fun k => Kq.menF q z ((gA x).g e) k s c) (Ev.menF q z (arg x e') (arg k e'))
    simp only [fo2_eq, gA_ok h]; exact Ref.menF _ _ _ _
  | mes x b v =>
    show Ref Eq (fun s c => fo2 ((gA v).g e) fun v => Kq.mesF ((gA x).g e) ((gA b).g e) v s c) (Ev.mesF (arg x e') (arg b e') (arg v e'))
    simp only [fo2_eq, gA_ok h]; exact Ref.mesF _ _ _
  | fld off m ag x =>
    show Ref Eq (Kq.fldF off m ag ((gA x).g e)) (Ev.fldF off m ag (arg x e'))
    rw [gA_ok h]; exact Ref.fldF _ _ _ _
  | idx n w ag x i =>
    show Ref Eq (Kq.idxF n w ag ((gA x).g e) ((gA i).g e)) (Ev.idxF n w ag (arg x e') (arg i e'))
    rw [gA_ok h, gA_ok h]; exact Ref.idxF _ _ _ _ _
  | ixt x i =>
    show Ref Eq (Kq.ixtF ((gA x).g e) ((gA i).g e)) (Ev.ixtF (arg x e') (arg i e'))
    rw [gA_ok h, gA_ok h]; exact Ref.ixtF _ _
  | sap n x =>
    show Ref Eq (Kq.sapF n ((gA x).g e)) (Ev.sapF n (arg x e'))
    rw [gA_ok h]; exact Ref.sapF _ _
  | bad => exact Ref.no
end
/- the operations once more, over slots and a stack -/
/-- what is had of slots and stack -/
def R2E (A : Nat → G2) (e : E) (yy : List AV) (e' : Env) : Prop := ∀ n, (A n).g e yy = e' n
section
variable {A : Nat → G2} {e : E} {yy : List AV} {e' : Env}
theorem gA2_ok (h : R2E A e yy e') (x : Arg) : (gA2 A x).g e yy = arg x e' := by
  cases x with
  | t n => exact h n
  | c v => rfl
theorem gL2_ok (h : R2E A e yy e') : ∀ l : List Arg, (gL2 A l).g e yy = args l e'
  | [] => rfl
  | x :: l => by
    show (gA2 A x).g e yy :: (gL2 A l).g e yy = _
    simp only [args, List.map_cons, gA2_ok h, gL2_ok h l]
theorem gO2_ok (h : R2E A e yy e') (x : Option Arg) : (gO2 A x).g e yy = argO x e' := by
  cases x with
  | none => rfl
  | some x =>
    show some ((gA2 A x).g e yy) = _
    simp only [argO, gA2_ok h]
theorem gF2_ok (h : R2E A e yy e') : ∀ (ps : List Part) (cs : List AV), (gF2 A ps).f e yy cs = fillL e' ps cs
  | [], cs => rfl
  | p :: ps, cs => by
    simp only [gF2, fillL, gA2_ok h]
    cases (arg p.x e').cells with
    | none => rfl
    | some l =>
      dsimp only
      cases (Nat.beq l.length p.m && Nat.ble (p.off + p.m) cs.length) with
      | false => rfl
      | true => exact gF2_ok h ps _
/-- parts into a tree, and into a list -/
theorem gT2_ok (h : R2E A e yy e') {n : Nat} : ∀ (ps : List Part) (cs : List AV) (t : Tr) (k : Tr → Bool), cs.length = n → (gT2 A n ps).f e yy t k = true →
    ∃ cs' t', fillL e' ps cs = some cs' ∧ cs'.length = n ∧ capT t' = capT t ∧ (n ≤ capT t → getL n t 0 = cs → getL n t' 0 = cs') ∧ k t' = true
  | [], cs, t, k, hn, hk => ⟨cs, t, rfl, hn, rfl, fun _ x => x, hk⟩
  | p :: ps, cs, t, k, hn, hk => by
    cases hb : Nat.ble (p.off + p.m) n with
    | false =>
      unfold gT2 at hk
      rw [hb] at hk
      cases hk
    | true =>
      have hle := Nat.le_of_ble_eq_true hb
      have step : ∀ l : List AV, (arg p.x e').cells = some l → l.length = p.m → (gT2 A n ps).f e yy (pT1 l t p.off) k = true →
          ∃ cs' t', fillL e' (p :: ps) cs = some cs' ∧ cs'.length = n ∧ capT t' = capT t ∧ (n ≤ capT t → getL n t 0 = cs → getL n t' 0 = cs') ∧ k t' = true := by
        intro l hl hlen hk
        obtain ⟨cs', t', h1, h2, h3, h4, h5⟩ := gT2_ok h ps (setL l cs p.off) _ k (by rw [setL_length (by omega)]; exact hn) hk
        refine ⟨cs', t', ?_, h2, h3.trans (capT_put _ _ _), fun hc hg => h4 (by rw [capT_put]; exact hc) ?_, h5⟩
        · simp only [fillL, hl]
          rw [hlen, hn, hb, Nat.beq_refl]
          exact h1
        · rw [getL_put hc (by omega), hg]
          rfl
      unfold gT2 at hk
      rw [hb] at hk
      cases h1 : Nat.beq p.m 1 with
      | true =>
        rw [h1] at hk
        change cellsK p.m ((gA2 A p.x).g e yy) (fun l => setT t p.off (hdL l) fun t => (gT2 A n ps).f e yy t k) = true at hk
        obtain ⟨l, hl, hm, hk⟩ := cellsK_some hk
        rw [setT_eq] at hk
        rw [gA2_ok h] at hl
        refine step l hl hm ?_
        have hm1 := Nat.eq_of_beq_eq_true h1
        match l, hm.trans hm1 with
        | [v], _ => exact hk
      | false =>
        rw [h1] at hk
        change cellsK p.m ((gA2 A p.x).g e yy) (fun l => Kq.putL l t p.off fun t => (gT2 A n ps).f e yy t k) = true at hk
        obtain ⟨l, hl, hm, hk⟩ := cellsK_some hk
        rw [putL_eq] at hk
        rw [gA2_ok h] at hl
        exact step l hl hm hk
variable {F : Fn} {F' : Fns}
theorem dO2_st (A : Nat → G2) (m : Nat) (a v : Arg) : dO2 A (.st m a v) = match Nat.beq m 1 with
    | true => ⟨fun _ e yy s k => st1F ((gA2 A a).g e yy) ((gA2 A v).g e yy) s k⟩
    | false => ⟨fun _ e yy s k => stnF m ((gA2 A a).g e yy) ((gA2 A v).g e yy) s k⟩ := rfl
theorem dO2_ok (hF : RF F F') (h : R2E A e yy e') (o : PO) : Ref Eq ((dO2 A o).v F e yy) (poR o F' e') := by
  cases o with
  | mv x =>
    show Ref Eq (M.pure ((gA2 A x).g e yy)) (Ev.M.pure (arg x e'))
    rw [gA2_ok h]; exact Ref.ret _
  | pick c a b =>
    show Ref Eq (Kq.pickF ((gA2 A c).g e yy) ((gA2 A a).g e yy) ((gA2 A b).g e yy)) (Ev.pickF (arg c e') (arg a e') (arg b e'))
    rw [gA2_ok h, gA2_ok h, gA2_ok h]; exact Ref.pickF _ _ _
  | new z cs => exact Ref.newF z cs
  | box z x =>
    show Ref Eq (Kq.boxF z ((gA2 A x).g e yy)) (Ev.M.ofO (arg x e').cells fun l => Ev.newF z l)
    rw [gA2_ok h]; exact Ref.boxF _ _
  | build cs ps =>
    show Ref Eq (M.ofO ((gF2 A ps).f e yy cs) fun l => M.pure (AV.ag l)) (Ev.M.ofO (fillL e' ps cs) fun l => Ev.M.pure (AV.ag l))
    rw [gF2_ok h]; exact Ref.ofO fun _ _ => Ref.ret _
  | bsl z cs len ps =>
    intro t s k hs hk
    change (gT2 A (lnL cs) ps).f e yy (clT cs) (fun t1 => Kq.newT (zc z true true) (lnL cs) t1 t fun id s => k (.sl id 0 len len) s) = true at hk
    rw [lnL_eq] at hk
    obtain ⟨cs', t', h1, h2, h3, h4, h5⟩ := gT2_ok h ps cs _ _ rfl hk
    have h6 : Ref Eq (M.bind (Kq.newT (zc z true true) cs.length t') fun id => M.pure (.sl id 0 len len)) (Ev.bslF z len cs') :=
      Ref.eqv (Ref.newT h2.symm fun hc => h4 (by rw [← h3]; exact hc) (toT_ok cs (by rw [← h3]; exact hc))) fun _ => Ref.ret _
    show ∃ a b t' s', Ev.M.ofO (fillL e' ps cs) (fun l => Ev.bslF z len l) s = some (b, s') ∧ _
    rw [h1]
    exact h6 t s k hs h5
  | ld1 a =>
    show Ref Eq (Kq.ldF ((gA2 A a).g e yy)) (Ev.ldF (arg a e'))
    rw [gA2_ok h]; exact Ref.ldF _
  | ldn m a =>
    show Ref Eq (Kq.ldnF m ((gA2 A a).g e yy)) (Ev.ldnF m (arg a e'))
    rw [gA2_ok h]; exact Ref.ldnF _ _
  | st m a v =>
    rw [dO2_st]
    cases hb : Nat.beq m 1 with
    | true =>
      obtain rfl := Nat.eq_of_beq_eq_true hb
      show Ref Eq (Kq.st1F ((gA2 A a).g e yy) ((gA2 A v).g e yy)) (Ev.stF 1 (arg a e') (arg v e'))
      rw [gA2_ok h, gA2_ok h]; exact Ref.st1F _ _
    | false =>
      show Ref Eq (Kq.stnF m ((gA2 A a).g e yy) ((gA2 A v).g e yy)) (Ev.stF m (arg a e') (arg v e'))
      rw [gA2_ok h, gA2_ok h]; exact Ref.stnF _ _ _
  | nilc x =>
    show Ref Eq (Kq.nilF ((gA2 A x).g e yy)) (Ev.nilF (arg x e'))
    rw [gA2_ok h]; exact Ref.nilF _
  | bin o x y =>
    show Ref Eq ((dB o).v ((gA2 A x).g e yy) ((gA2 A y).g e yy)) (Ev.binF o (arg x e') (arg y e'))
    rw [gA2_ok h, gA2_ok h]; exact Ref.dB _ _ _
  | eq kd ng x y =>
    show Ref Eq (Kq.eqN kd ng ((gA2 A x).g e yy) ((gA2 A y).g e yy)) (Ev.eqN kd ng (arg x e') (arg y e'))
    rw [gA2_ok h, gA2_ok h]; exact Ref.eqN _ _ _ _
  | un o x =>
    have key : Ref Eq (M.ofO (unF o ((gA2 A x).g e yy)) M.pure) (Ev.M.ofO (unF o (arg x e')) Ev.M.pure) := by
      rw [gA2_ok h]; exact Ref.opt _
    cases o <;> first
      | exact key
      | (show Ref Eq (Kq.notF ((gA2 A x).g e yy)) (Ev.M.ofO (unF .not (arg x e')) Ev.M.pure)
         rw [gA2_ok h]; exact Ref.notF _)
  | cvi k x =>
    show Ref Eq (Kq.cviF k ((gA2 A x).g e yy)) (Ev.cviF k (arg x e'))
    rw [gA2_ok h]; exact Ref.cviF _ _
  | cvs x =>
    show Ref Eq (Kq.cvsF ((gA2 A x).g e yy)) (Ev.cvsF (arg x e'))
    rw [gA2_ok h]; exact Ref.cvsF _
  | cvb x =>
    show Ref Eq (Kq.cvbF ((gA2 A x).g e yy)) (Ev.cvbF (arg x e'))
    rw [gA2_ok h]; exact Ref.cvbF _
  | cvt x =>
    show Ref Eq (Kq.cvtF ((gA2 A x).g e yy)) (Ev.cvtF (arg x e'))
    rw [gA2_ok h]; exact Ref.cvtF _
  | cvm x =>
    show Ref Eq (Kq.cvmF ((gA2 A x).g e yy)) (Ev.cvmF (arg x e'))
    rw [gA2_ok h]; exact Ref.cvmF _
  | mkf fn a b =>
    show Ref Eq (M.pure (AV.f fn ((gL2 A a).g e yy) ((gL2 A b).g e yy))) (Ev.M.pure (AV.f fn (args a e') (args b e')))
    rw [gL2_ok h, gL2_ok h]; exact Ref.ret _
  | mks z cs l c =>
    show Ref Eq (Kq.mksF z cs ((gA2 A l).g e yy) ((gA2 A c).g e yy)) (Ev.mksF z cs (arg l e') (arg c e'))
    rw [gA2_ok h, gA2_ok h]; exact Ref.mksF _ _ _ _
  | sls w x lo hi mx =>
    show Ref Eq (M.ofO (slsF w ((gA2 A x).g e yy) ((gO2 A lo).g e yy) ((gO2 A hi).g e yy) ((gO2 A mx).g e yy)) M.pure) (Ev.M.ofO (slsF w (arg x e') (argO lo e') (argO hi e') (argO mx e')) Ev.M.pure)
    rw [gA2_ok h, gO2_ok h, gO2_ok h, gO2_ok h]; exact Ref.opt _
  | sla w n x lo hi mx =>
    show Ref Eq (M.ofO (slaF w n ((gA2 A x).g e yy) ((gO2 A lo).g e yy) ((gO2 A hi).g e yy) ((gO2 A mx).g e yy)) M.pure) (Ev.M.ofO (slaF w n (arg x e') (argO lo e') (argO hi e') (argO mx e')) Ev.M.pure)
    rw [gA2_ok h, gO2_ok h, gO2_ok h, gO2_ok h]; exact Ref.opt _
  | slt x lo hi =>
    show Ref Eq (M.ofO (sltF ((gA2 A x).g e yy) ((gO2 A lo).g e yy) ((gO2 A hi).g e yy)) M.pure) (Ev.M.ofO (sltF (arg x e') (argO lo e') (argO hi e')) Ev.M.pure)
    rw [gA2_ok h, gO2_ok h, gO2_ok h]; exact Ref.opt _
  | fad off x =>
    show Ref Eq (Kq.fadF off ((gA2 A x).g e yy)) (Ev.fadF off (arg x e'))
    rw [gA2_ok h]; exact Ref.fadF _ _
  | ixa n w x i =>
    show Ref Eq (Kq.ixaF n w ((gA2 A x).g e yy) ((gA2 A i).g e yy)) (Ev.ixaF n w (arg x e') (arg i e'))
    rw [gA2_ok h, gA2_ok h]; exact Ref.ixaF _ _ _ _
  | ixs w x i =>
    show Ref Eq (Kq.ixsF w ((gA2 A x).g e yy) ((gA2 A i).g e yy)) (Ev.ixsF w (arg x e') (arg i e'))
    rw [gA2_ok h, gA2_ok h]; exact Ref.ixsF _ _ _
  | ext x j =>
    show Ref Eq (Kq.extK (dX j) ((gA2 A x).g e yy)) (Ev.extF (arg x e') j)
    rw [gA2_ok h]; exact Ref.extF _ _
  | calv f l =>
    show Ref Eq (Kq.callF F ((gA2 A f).g e yy) ((gL2 A l).g e yy)) (Ev.callF F' (arg f e') (args l e'))
    rw [gA2_ok h, gL2_ok h]; exact Ref.callF hF _ _
  | app z w s x =>
    show Ref Eq (Kq.appF z w ((gA2 A s).g e yy) ((gA2 A x).g e yy)) (Ev.appF z w (arg s e') (arg x e'))
    rw [gA2_ok h, gA2_ok h]; exact Ref.appF _ _ _ _
  | apz z w cs s x =>
    show Ref Eq (Kq.apzF z w cs ((gA2 A s).g e yy) ((gA2 A x).g e yy)) (Ev.apzF z w cs (arg s e') (arg x e'))
    rw [gA2_ok h, gA2_ok h]; exact Ref.apzF _ _ _ _ _
  | cpy w d x =>
    show Ref Eq (Kq.cpyF w ((gA2 A d).g e yy) ((gA2 A x).g e yy)) (Ev.cpyF w (arg d e') (arg x e'))
    rw [gA2_ok h, gA2_ok h]; exact Ref.cpyF _ _ _
  | clr cs d =>
    show Ref Eq (Kq.clrF cs ((gA2 A d).g e yy)) (Ev.clrF cs (arg d e'))
    rw [gA2_ok h]; exact Ref.clrF _ _
  | len x =>
    show Ref Eq (Kq.lenK ((gA2 A x).g e yy)) (Ev.M.ofO (lenF (arg x e')) Ev.M.pure)
    rw [gA2_ok h]; exact Ref.lenK _
  | lns x =>
    show Ref Eq (M.ofO (lnsF ((gA2 A x).g e yy)) M.pure) (Ev.M.ofO (lnsF (arg x e')) Ev.M.pure)
    rw [gA2_ok h]; exact Ref.opt _
  | cap x =>
    show Ref Eq (M.ofO (capF ((gA2 A x).g e yy)) M.pure) (Ev.M.ofO (capF (arg x e')) Ev.M.pure)
    rw [gA2_ok h]; exact Ref.opt _
  | mm mx x l =>
    show Ref Eq (M.ofO (mmF mx ((gA2 A x).g e yy) ((gL2 A l).g e yy)) M.pure) (Ev.M.ofO (mmF mx (arg x e') (args l e')) Ev.M.pure)
    rw [gA2_ok h, gL2_ok h]; exact Ref.opt _
  | mkm => exact Ref.mkmF
  | lkm q z o x k =>
    show Ref Eq (fun s c => fo2 ((gA2 A k).g e yy) fun k => Kq.lkF q z o ((gA2 A x).g e yy) k s c) (Ev.lkF q z o (arg x e') (arg k e'))
    simp only [fo2_eq, gA2_ok h]; exact Ref.lkF _ _ _ _ _
  | mup q x k v =>
    show Ref Eq (fun s c => fo2 ((gA2 A k).g e yy) fun k => fo2 ((gA2 A v).g e yy) fun v => Kq.mupF q ((gA2 A x).g e yy) k v s c) (Ev.mupF q (arg x e') (arg k e') (arg v e'))
    simp only [fo2_eq, gA2_ok h]; exact Ref.mupF _ _ _ _
  | del q x k =>
    show Ref Eq (fun s c => fo2 ((gA2 A k).g e yy) fun k => Kq.delF q ((gA2 A x).g e yy) k s c) (Ev.delF q (arg x e') (arg k e'))
    simp only [fo2_eq, gA2_ok h]; exact Ref.delF _ _ _
  | lnm x =>
    show Ref Eq (Kq.lnmF ((gA2 A x).g e yy)) (Ev.lnmF (arg x e'))
    rw [gA2_ok h]; exact Ref.lnmF _
  | men q z x k =>
    show Ref Eq (fun s c => fo2 ((gA2 A k).g e yy) fun k => Kq.menF q z ((gA2 A x).g e yy) k s c) (Ev.menF q z (arg x e') (arg k e'))
    simp only [fo2_eq, gA2_ok h]; exact Ref.menF _ _ _ _
  | mes x b v =>
    show Ref Eq (fun s c => fo2 ((gA2 A v).g e yy) fun v => Kq.mesF ((gA2 A x).g e yy) ((gA2 A b).g e yy) v s c) (Ev.mesF (arg x e') (arg b e') (arg v e'))
    simp only [fo2_eq, gA2_ok h]; exact Ref.mesF _ _ _
  | fld off m ag x =>
    show Ref Eq (Kq.fldF off m ag ((gA2 A x).g e yy)) (Ev.fldF off m ag (arg x e'))
    rw [gA2_ok h]; exact Ref.fldF _ _ _ _
  | idx n w ag x i =>
    show Ref Eq (Kq.idxF n w ag ((gA2 A x).g e yy) ((gA2 A i).g e yy)) (Ev.idxF n w ag (arg x e') (arg i e'))
    rw [gA2_ok h, gA2_ok h]; exact Ref.idxF _ _ _ _ _
  | ixt x i =>
    show Ref Eq (Kq.ixtF ((gA2 A x).g e yy) ((gA2 A i).g e yy)) (Ev.ixtF (arg x e') (arg i e'))
    rw [gA2_ok h, gA2_ok h]; exact Ref.ixtF _ _
  | sap n x =>
    show Ref Eq (Kq.sapF n ((gA2 A x).g e yy)) (Ev.sapF n (arg x e'))
    rw [gA2_ok h]; exact Ref.sapF _ _
  | bad => exact Ref.no
end
end Kq
end Ev
end Go.Proofs.YthknbcbkibbncaaGreat
