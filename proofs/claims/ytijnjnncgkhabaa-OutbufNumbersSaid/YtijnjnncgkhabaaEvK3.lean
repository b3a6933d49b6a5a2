/- DERIVED. The quick evaluator's code and functions, against the plain one's. -/
import Derived.Test.YtijnjnncgkhabaaEvK2
set_option linter.unusedVariables false
namespace Go.Proofs.Ytijnjnncgkhabaa
namespace Ev
namespace Kq

theorem dgs_val {n : Nat} {d : Dg} (h : dgs n = some d) : n = d.val := by
  unfold dgs at h
  split at h <;> cases h <;> rfl
/-- slots agree -/
def RE (e : E3) (e' : Env) : Prop := ∀ n, (gtS n).g e = e' n
theorem gtS_eq {n : Nat} {a b c : Dg} (ha : dgs (n / 64) = some a) (hb : dgs (n / 8 % 8) = some b) (hc : dgs (n % 8) = some c) (e : E3) : (gtS n).g e = gt c (gt b (gt a e)) := by
  unfold gtS
  rw [ha, hb, hc]
theorem ptS_eq {d : Nat} {p : P} (h : ptS d = some p) : ∃ a b c, dgs (d / 64) = some a ∧ dgs (d / 8 % 8) = some b ∧ dgs (d % 8) = some c ∧ ∀ v e, p.p v e = up a (up b (up c fun _ => v)) e := by
  unfold ptS at h
  cases ha : dgs (d / 64) with
  | none => rw [ha] at h; cases h
  | some a =>
    cases hb : dgs (d / 8 % 8) with
    | none => rw [ha, hb] at h; cases h
    | some b =>
      cases hc : dgs (d % 8) with
      | none => rw [ha, hb, hc] at h; cases h
      | some c =>
        rw [ha, hb, hc] at h
        cases h
        exact ⟨a, b, c, rfl, rfl, rfl, fun _ _ => rfl⟩
theorem gt_pt {d : Nat} {p : P} (h : ptS d = some p) (n : Nat) (v : AV) (e : E3) : (gtS n).g (p.p v e) = if n = d then v else (gtS n).g e := by
  obtain ⟨a, b, c, ha, hb, hc, hp⟩ := ptS_eq h
  rw [hp]
  by_cases hn : n = d
  · subst hn
    rw [if_pos rfl, gtS_eq ha hb hc, gt_up, gt_up, gt_up]
  · rw [if_neg hn]
    cases ha' : dgs (n / 64) with
    | none => unfold gtS; rw [ha']
    | some a' =>
      cases hb' : dgs (n / 8 % 8) with
      | none => unfold gtS; rw [ha', hb']
      | some b' =>
        cases hc' : dgs (n % 8) with
        | none => unfold gtS; rw [ha', hb', hc']
        | some c' =>
          rw [gtS_eq ha' hb' hc', gtS_eq ha' hb' hc']
          by_cases h1 : a' = a
          · subst h1
            rw [gt_up]
            by_cases h2 : b' = b
            · subst h2
              rw [gt_up]
              by_cases h3 : c' = c
              · subst h3
                have e1 := dgs_val ha; have e2 := dgs_val hb; have e3 := dgs_val hc
                have f1 := dgs_val ha'; have f2 := dgs_val hb'; have f3 := dgs_val hc'
                exact absurd (by omega) hn
              · rw [gt_up_ne _ _ h3]
            · rw [gt_up_ne _ _ h2]
          · rw [gt_up_ne _ _ h1]
theorem RE.put {e : E3} {e' : Env} (h : RE e e') {d : Option Nat} {p : P} (hp : pD d = some p) (v : AV) : RE (p.p v e) (putO d v e') := by
  intro n
  cases d with
  | none =>
    simp only [pD] at hp
    cases hp
    exact h n
  | some d =>
    simp only [pD] at hp
    simp only [putO]
    rw [gt_pt hp, h n]
theorem gA_ok {e : E3} {e' : Env} (h : RE e e') (x : Arg) : (gA x).g e = arg x e' := by
  cases x with
  | t n => exact h n
  | c v => rfl
theorem gL_ok {e : E3} {e' : Env} (h : RE e e') : ∀ l : List Arg, (gL l).g e = args l e'
  | [] => rfl
  | x :: l => by
    simp only [gL, args, List.map_cons, gA_ok h, gL_ok h l]
theorem gO_ok {e : E3} {e' : Env} (h : RE e e') (x : Option Arg) : (gO x).g e = argO x e' := by
  cases x with
  | none => rfl
  | some x => simp only [gO, argO, gA_ok h]
theorem gF_ok {e : E3} {e' : Env} (h : RE e e') : ∀ (ps : List Part) (cs : List AV), (gF ps).f e cs = fillL e' ps cs
  | [], cs => rfl
  | p :: ps, cs => by
    simp only [gF, fillL, gA_ok h]
    cases (arg p.x e').cells with
    | none => rfl
    | some l =>
      dsimp only
      cases (Nat.beq l.length p.m && Nat.ble (p.off + p.m) cs.length) with
      | false => rfl
      | true => exact gF_ok h ps _
/-- functions agree -/
def RF (F : Fn) (F' : Fns) : Prop := ∀ f l, Ref Eq (F.fn f l) (F'.fn f l)
section
variable {F : Fn} {F' : Fns} {e : E3} {e' : Env}
theorem Ref.callF (hF : RF F F') (f : AV) (l : List AV) : Ref Eq (callF F f l) (Ev.callF F' f l) := by
  cases f <;> first | exact Ref.no | exact hF _ _
theorem dO_ok (hF : RF F F') (h : RE e e') (o : PO) : Ref Eq ((dO o).v F e) (poR o F' e') := by
  cases o <;> simp only [dO, poR, gA_ok h, gL_ok h, gO_ok h, gF_ok h]
  all_goals first
    | exact Ref.ret _
    | exact Ref.opt _
    | exact Ref.pickF _ _ _
    | exact Ref.newF _ _
    | exact Ref.ofO fun _ _ => Ref.newF _ _
    | exact Ref.ofO fun _ _ => Ref.ret _
    | exact Ref.ofO fun _ _ => Ref.bslF _ _ _
    | exact Ref.ldF _
    | exact Ref.ldnF _ _
    | exact Ref.stF _ _ _
    | exact Ref.nilF _
    | exact Ref.binF _ _ _
    | exact Ref.eqN _ _ _ _
    | exact Ref.cviF _ _
    | exact Ref.cvsF _
    | exact Ref.cvbF _
    | exact Ref.cvtF _
    | exact Ref.cvmF _
    | exact Ref.mksF _ _ _ _
    | exact Ref.fadF _ _
    | exact Ref.ixaF _ _ _ _
    | exact Ref.ixsF _ _ _
    | exact Ref.extF _ _
    | exact Ref.callF hF _ _
    | exact Ref.appF _ _ _ _
    | exact Ref.apzF _ _ _ _ _
    | exact Ref.cpyF _ _ _
    | exact Ref.clrF _ _
theorem dP_ok (hF : RF F F') (h : RE e e') (o : PO) (d : Option Nat) : Ref RE ((dP o d).v F e) (Ev.M.bind (poR o F' e') fun v => Ev.M.pure (putO d v e')) := by
  unfold dP
  cases hp : pD d with
  | none => exact Ref.no
  | some p =>
    show Ref RE (M.bind ((dO o).v F e) fun v => M.pure (p.p v e)) _
    refine Ref.bind (R := Eq) (dO_ok hF h o) fun a b hab => ?_
    subst hab
    exact Ref.pure (h.put hp _)
theorem dU_ok (h : RE e e') (d : Option Nat) : Ref RE ((dU d).v F e) (Ev.M.bind (Ev.M.pure und) fun v => Ev.M.pure (putO d v e')) := by
  unfold dU
  cases hp : pD d with
  | none => exact Ref.no
  | some p => exact Ref.pure (h.put hp und)
theorem dS_ok (hF : RF F F') (h : RE e e') (o : PS) : Ref RE ((dS o).v F e) (psR o F' e') := by
  obtain ⟨g, d, o⟩ := o
  unfold dS psR psV
  cases g with
  | none => exact dP_ok hF h o d
  | some g =>
    obtain ⟨n, want⟩ := g
    cases want
    · dsimp only [wanted]
      rw [h n]
      cases e' n <;> first | exact dU_ok h d | skip
      rename_i t
      cases t
      · exact dP_ok hF h o d
      · exact dU_ok h d
    · dsimp only [wanted]
      rw [h n]
      cases e' n <;> first | exact dU_ok h d | skip
      rename_i t
      cases t
      · exact dU_ok h d
      · exact dP_ok hF h o d
end
theorem dOps_ok {F : Fn} {F' : Fns} (hF : RF F F') : ∀ (l : List PS) (e : E3) (e' : Env), RE e e' → Ref RE ((dOps l).v F e) (opsR F' l e')
  | [], e, e', h => Ref.pure h
  | o :: l, e, e', h => by
    simp only [dOps, opsR]
    exact Ref.bind (dS_ok hF h o) fun a b hab => dOps_ok hF l a b hab
theorem dDrw_ok {F : Fn} {F' : Fns} (hF : RF F F') : ∀ (l : List PS) (ms : List Nat) (acc : List Ft) (i : Nat) (e : E3) (e' : Env), RE e e' → Ref RE ((dDrw l ms).v F acc i e) (drwR F' l ms acc i e')
  | [], ms, acc, i, e, e', h => Ref.pure h
  | o :: l, [], acc, i, e, e', h => Ref.no
  | o :: l, m :: ms, acc, i, e, e', h => by
    simp only [dDrw, drwR]
    refine Ref.bind (Ref.apart (dS_ok hF h o)) ?_
    rintro ⟨a, x⟩ ⟨b, y⟩ ⟨hab, hxy⟩
    dsimp only at hab hxy
    subst hxy
    dsimp only
    cases acc.any (clash m ⟨i, x.1, x.2⟩) with
    | true => exact Ref.no
    | false => exact dDrw_ok hF l ms _ _ a b hab
/-- how a piece of code ends -/
def RX (x : Option Ex × E3) (y : Option Ex × Env) : Prop := x.1 = y.1 ∧ RE x.2 y.2
theorem itQ_ok {q : E3 → M (Option Ex × E3)} {m : Env → Ev.M (Option Ex × Env)} (hb : ∀ e e', RE e e' → Ref RX (q e) (m e')) : ∀ (n : Nat) (e : E3) (e' : Env), RE e e' → Ref RX (itQ n q e) (iter n m e')
  | 0, e, e', h => Ref.no
  | n + 1, e, e', h => by
    show Ref RX (M.bind (q e) fun x => match x.1 with
      | none => itQ n q x.2
      | some ex => M.pure (some ex, x.2)) (Ev.M.bind (m e') _)
    refine Ref.bind (hb e e' h) ?_
    rintro ⟨x, a⟩ ⟨y, b⟩ ⟨hxy, hab⟩
    dsimp only at hxy hab
    subst hxy
    cases x with
    | none => exact itQ_ok hb n a b hab
    | some ex => exact Ref.pure ⟨rfl, hab⟩
theorem dC_ok {F : Fn} {F' : Fns} (hF : RF F F') : ∀ (c : PC) (e : E3) (e' : Env), RE e e' → Ref RX ((dC c).v F e) (coR F' c e')
  | .skip, e, e', h => Ref.pure ⟨rfl, h⟩
  | .ret, e, e', h => Ref.pure ⟨rfl, h⟩
  | .exit id, e, e', h => Ref.pure ⟨rfl, h⟩
  | .seq a b, e, e', h => by
    simp only [dC, coR]
    refine Ref.bind (dC_ok hF a e e' h) ?_
    rintro ⟨x, a'⟩ ⟨y, b'⟩ ⟨hxy, hab⟩
    dsimp only at hxy hab
    subst hxy
    cases x with
    | none => exact dC_ok hF b a' b' hab
    | some ex => exact Ref.pure ⟨rfl, hab⟩
  | .cond c a b, e, e', h => by
    simp only [dC, coR, gA_ok h]
    cases arg c e' <;> first | exact Ref.no | skip
    rename_i t
    cases t
    · exact dC_ok hF b e e' h
    · exact dC_ok hF a e e' h
  | .block id b, e, e', h => by
    simp only [dC, coR]
    refine Ref.bind (dC_ok hF b e e' h) ?_
    rintro ⟨x, a'⟩ ⟨y, b'⟩ ⟨hxy, hab⟩
    dsimp only at hxy hab
    subst hxy
    cases x with
    | none => exact Ref.pure ⟨rfl, hab⟩
    | some ex =>
      cases ex with
      | ret => exact Ref.pure ⟨rfl, hab⟩
      | exit j =>
        dsimp only
        cases Nat.beq j id with
        | true => exact Ref.pure ⟨rfl, hab⟩
        | false => exact Ref.pure ⟨rfl, hab⟩
  | .loop b, e, e', h => by
    simp only [dC, coR]
    generalize rounds = N
    exact itQ_ok (fun e e' h => dC_ok hF b e e' h) N e e' h
  | .reg ops, e, e', h => by
    simp only [dC, coR]
    exact Ref.bind (dOps_ok hF ops e e' h) fun a b hab => Ref.pure ⟨rfl, hab⟩
  | .drw ops ms, e, e', h => by
    simp only [dC, coR]
    exact Ref.bind (dDrw_ok hF ops ms [] 0 e e' h) fun a b hab => Ref.pure ⟨rfl, hab⟩
theorem dR_ok {e : E3} {e' : Env} (h : RE e e') : ∀ l : List PR, Ref Eq ((dR l).v e) (resL e' l)
  | [] => Ref.ret _
  | .t n :: l => by
    simp only [dR, resL, h n]
    exact Ref.eqv (dR_ok h l) fun vs => Ref.ret _
  | .c1 n :: l => by
    simp only [dR, resL, h n]
    exact Ref.eqv (Ref.ldF _) fun v => Ref.eqv (dR_ok h l) fun vs => Ref.ret _
  | .cn m n :: l => by
    simp only [dR, resL, h n]
    exact Ref.eqv (Ref.ldnF _ _) fun v => Ref.eqv (dR_ok h l) fun vs => Ref.ret _
theorem gt_e3 (n : Nat) : (gtS n).g e3 = und := by
  unfold gtS
  cases dgs (n / 64) with
  | none => rfl
  | some a =>
    cases dgs (n / 8 % 8) with
    | none => rfl
    | some b =>
      cases dgs (n % 8) with
      | none => rfl
      | some c => simp only [e3, gt_all]
theorem argQ_ok : ∀ (l : List AV) (i : Nat) (e e1 : E3), argQ l i e = some e1 → ∀ n, (gtS n).g e1 = if n < i then (gtS n).g e else match l[n - i]? with
    | some v => v
    | none => (gtS n).g e
  | [], i, e, e1, h, n => by
    simp only [argQ] at h
    cases h
    simp
  | v :: l, i, e, e1, h, n => by
    simp only [argQ] at h
    cases hp : ptS i with
    | none => rw [hp] at h; cases h
    | some p =>
      rw [hp] at h
      rw [argQ_ok l (i + 1) _ e1 h n, gt_pt hp]
      by_cases h1 : n < i
      · rw [if_pos (by omega), if_neg (by omega), if_pos h1]
      · by_cases h2 : n = i
        · subst h2
          simp
        · obtain ⟨k, rfl⟩ : ∃ k, n = i + 1 + k := ⟨n - (i + 1), by omega⟩
          rw [if_neg (by omega), if_neg h1, if_neg (by omega)]
          rw [show i + 1 + k - (i + 1) = k by omega, show i + 1 + k - i = k + 1 by omega]
          rfl
theorem argQ_RE {l : List AV} {e : E3} (h : argQ l 0 e3 = some e) : RE e (argE l) := by
  intro n
  rw [argQ_ok l 0 e3 e h n]
  simp only [Nat.not_lt_zero, if_false, Nat.sub_zero, argE, gt_e3]
  cases l[n]? <;> rfl
theorem runQ_ok {oq : Nat → List AV → M AV} {os : Nat → List AV → Ev.M AV} (ho : ∀ k l, Ref Eq (oq k l) (os k l)) (X : Nat → Option PF) : ∀ n, RF (runQ oq X n) (run os X n)
  | 0 => fun f l => Ref.no
  | n + 1 => fun f l => by
    have ih := runQ_ok ho X n
    show Ref Eq ((dW oq (X f)).v (runQ oq X n) l) (fnR os X (run os X n) f l)
    unfold fnR
    cases X f with
    | none => exact Ref.no
    | some pf =>
      cases pf with
      | own k => exact ho k l
      | f body res =>
        simp only [dW, walkR]
        cases hq : argQ l 0 e3 with
        | none => exact Ref.no
        | some e =>
          show Ref Eq (M.bind ((dC body).v (runQ oq X n) e) _) _
          refine Ref.bind (dC_ok ih body e (argE l) (argQ_RE hq)) ?_
          rintro ⟨x, a'⟩ ⟨y, b'⟩ ⟨hxy, hab⟩
          dsimp only at hxy hab
          subst hxy
          cases x with
          | none => exact Ref.eqv (dR_ok hab res) fun vs => Ref.ret _
          | some ex =>
            cases ex with
            | ret => exact Ref.eqv (dR_ok hab res) fun vs => Ref.ret _
            | exit j => exact Ref.no
/-- WHAT THE QUICK ONE FINDS TRUE IS TRUE. -/
theorem ask_ok {oq : Nat → List AV → M AV} {os : Nat → List AV → Ev.M AV} (ho : ∀ k l, Ref Eq (oq k l) (os k l)) {X : Nat → Option PF} {n f : Nat} (h : ask oq X n f = true) : ∃ s', (run os X n).fn f [] ⟨false, fun _ => none, Id.zero, [], []⟩ = some (.b true, s') := by
  obtain ⟨a, b, t', s', h1, h2, h3, h4⟩ := runQ_ok ho X n f [] st0 ⟨false, fun _ => none, Id.zero, [], []⟩ _ ⟨rfl, ⟨fun id => by rw [show st0.h = h6 from rfl, look_h6]; rfl, fun id b hb => by rw [show st0.h = h6 from rfl, look_h6] at hb; cases hb⟩, rfl, rfl, rfl⟩ h
  subst h2
  cases a <;> simp only [isT] at h4 <;> first | (cases h4; done) | skip
  subst h4
  exact ⟨s', h1⟩
end Kq
end Ev
end Go.Proofs.Ytijnjnncgkhabaa
