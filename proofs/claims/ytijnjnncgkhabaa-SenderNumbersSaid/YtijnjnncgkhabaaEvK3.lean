/- DERIVED. The quick evaluator's code and functions, against the plain one's. -/
import Derived.Test.YtijnjnncgkhabaaEvK2
import Derived.Test.YtijnjnncgkhabaaEvH
set_option linter.unusedVariables false
namespace Go.Proofs.Ytijnjnncgkhabaa
namespace Ev
namespace Kq

theorem dgs_val {n : Nat} {d : Dg} (h : dgs n = some d) : n = d.val := by
  unfold dgs at h
  split at h <;> cases h <;> rfl
theorem dgs_lt {n : Nat} {d : Dg} (h : dgs n = some d) : n < 8 := by
  rw [dgs_val h]; exact d.val_lt
/-- slots agree -/
def RE (e : E) (e' : Env) : Prop := ∀ n, (gtS n).g e = e' n
theorem gtS_eq {n : Nat} {a b c : Dg} (ha : dgs (n / 64) = some a) (hb : dgs (n / 8 % 8) = some b) (hc : dgs (n % 8) = some c) (e : E) :
    (gtS n).g e = match Nat.blt n 8 with
      | true => gt c e.lo
      | false => match Nat.blt n 64 with
        | true => gt c (gt b e.md)
        | false => gt c (gt b (gt a e.hi)) := by
  unfold gtS
  rw [ha, hb, hc]
  cases Nat.blt n 8 <;> cases Nat.blt n 64 <;> rfl
theorem ptS_eq {d : Nat} {p : P} (h : ptS d = some p) : ∃ a b c, dgs (d / 64) = some a ∧ dgs (d / 8 % 8) = some b ∧ dgs (d % 8) = some c ∧ ∀ v e, p.p v e = match Nat.blt d 8 with
      | true => ⟨up c (fun _ => v) e.lo, e.md, e.hi⟩
      | false => match Nat.blt d 64 with
        | true => ⟨e.lo, up b (up c fun _ => v) e.md, e.hi⟩
        | false => ⟨e.lo, e.md, up a (up b (up c fun _ => v)) e.hi⟩ := by
  unfold ptS at h
  cases ha : dgs (d / 64) with
  | none => rw [ha] at h; cases h
  | some a =>
    cases hb : dgs (d / 8 % 8) with
    | none => rw [ha, hb] at h; cases h
    | some b =>
      cases hc : dgs (d % 8) with
      | none => rw [ha, hb, hc] at h; cases h
      | some c =>
        rw [ha, hb, hc] at h
        refine ⟨a, b, c, rfl, rfl, rfl, fun v e => ?_⟩
        cases h8 : Nat.blt d 8 <;> rw [h8] at h
        · cases h64 : Nat.blt d 64 <;> rw [h64] at h
          · cases h; rfl
          · cases h; rfl
        · cases h; rfl
theorem blt_t {a b : Nat} (h : Nat.blt a b = true) : a < b := Nat.le_of_ble_eq_true h
theorem blt_f {a b : Nat} (h : Nat.blt a b = false) : b ≤ a := by
  rcases Nat.lt_or_ge a b with h' | h'
  · have : Nat.blt a b = true := Nat.ble_eq_true_of_le h'
    rw [this] at h; cases h
  · exact h'
theorem gt_pt {d : Nat} {p : P} (h : ptS d = some p) (n : Nat) (v : AV) (e : E) : (gtS n).g (p.p v e) = if n = d then v else (gtS n).g e := by
  obtain ⟨a, b, c, ha, hb, hc, hp⟩ := ptS_eq h
  rw [hp]
  have e1 := dgs_val ha; have e2 := dgs_val hb; have e3 := dgs_val hc
  by_cases hn : n = d
  · subst hn
    rw [if_pos rfl, gtS_eq ha hb hc]
    cases Nat.blt n 8 <;> cases Nat.blt n 64 <;> simp only [gt_up]
  · rw [if_neg hn]
    cases ha' : dgs (n / 64) with
    | none => unfold gtS; rw [ha']
    | some a' =>
      cases hb' : dgs (n / 8 % 8) with
      | none => unfold gtS; rw [ha', hb']
      | some b' =>
        cases hc' : dgs (n % 8) with
        | none => unfold gtS; rw [ha', hb', hc']
        | some c' =>
          have f1 := dgs_val ha'; have f2 := dgs_val hb'; have f3 := dgs_val hc'
          rw [gtS_eq ha' hb' hc', gtS_eq ha' hb' hc']
          cases h8 : Nat.blt n 8 <;> cases g8 : Nat.blt d 8 <;> dsimp only
          · cases h64 : Nat.blt n 64 <;> cases g64 : Nat.blt d 64 <;> dsimp only
            · by_cases h1 : a' = a
              · subst h1
                rw [gt_up]
                by_cases h2 : b' = b
                · subst h2
                  rw [gt_up]
                  by_cases h3 : c' = c
                  · subst h3
                    exact absurd (by omega) hn
                  · rw [gt_up_ne _ _ h3]
                · rw [gt_up_ne _ _ h2]
              · rw [gt_up_ne _ _ h1]
            · by_cases h2 : b' = b
              · subst h2
                rw [gt_up]
                by_cases h3 : c' = c
                · subst h3
                  have := blt_t h64; have := blt_t g64
                  exact absurd (by omega) hn
                · rw [gt_up_ne _ _ h3]
              · rw [gt_up_ne _ _ h2]
          · cases Nat.blt d 64 <;> rfl
          · by_cases h3 : c' = c
            · subst h3
              have := blt_t h8; have := blt_t g8
              exact absurd (by omega) hn
            · rw [gt_up_ne _ _ h3]
theorem RE.put {e : E} {e' : Env} (h : RE e e') {d : Option Nat} {p : P} (hp : pD d = some p) (v : AV) : RE (p.p v e) (putO d v e') := by
  intro n
  cases d with
  | none =>
    simp only [pD] at hp
    cases hp
    exact h n
  | some d =>
    simp only [pD] at hp
    simp only [putO]
    rw [gt_pt hp, h n]
theorem gA_ok {e : E} {e' : Env} (h : RE e e') (x : Arg) : (gA x).g e = arg x e' := by
  cases x with
  | t n => exact h n
  | c v => rfl
theorem gL_ok {e : E} {e' : Env} (h : RE e e') : ∀ l : List Arg, (gL l).g e = args l e'
  | [] => rfl
  | x :: l => by
    show (gA x).g e :: (gL l).g e = _
    simp only [args, List.map_cons, gA_ok h, gL_ok h l]
theorem gO_ok {e : E} {e' : Env} (h : RE e e') (x : Option Arg) : (gO x).g e = argO x e' := by
  cases x with
  | none => rfl
  | some x =>
    show some ((gA x).g e) = _
    simp only [argO, gA_ok h]
theorem gF_ok {e : E} {e' : Env} (h : RE e e') : ∀ (ps : List Part) (cs : List AV), (gF ps).f e cs = fillL e' ps cs
  | [], cs => rfl
  | p :: ps, cs => by
    simp only [gF, fillL, gA_ok h]
    cases (arg p.x e').cells with
    | none => rfl
    | some l =>
      dsimp only
      cases (Nat.beq l.length p.m && Nat.ble (p.off + p.m) cs.length) with
      | false => rfl
      | true => exact gF_ok h ps _
theorem setL_length {l cs : List AV} {k : Nat} (h : k + l.length ≤ cs.length) : (setL l cs k).length = cs.length := by
  simp [setL]; omega
/-- parts into a tree, and into a list -/
theorem gT_ok {e : E} {e' : Env} (h : RE e e') {n : Nat} : ∀ (ps : List Part) (cs : List AV) (t : Tr) (k : Tr → Bool), cs.length = n → (gT n ps).f e t k = true →
    ∃ cs' t', fillL e' ps cs = some cs' ∧ cs'.length = n ∧ capT t' = capT t ∧ (n ≤ capT t → getL n t 0 = cs → getL n t' 0 = cs') ∧ k t' = true
  | [], cs, t, k, hn, hk => ⟨cs, t, rfl, hn, rfl, fun _ x => x, hk⟩
  | p :: ps, cs, t, k, hn, hk => by
    cases hb : Nat.ble (p.off + p.m) n with
    | false =>
      unfold gT at hk
      rw [hb] at hk
      cases hk
    | true =>
      have hle := Nat.le_of_ble_eq_true hb
      have step : ∀ l : List AV, (arg p.x e').cells = some l → l.length = p.m → (gT n ps).f e (Kq.putL l t p.off) k = true →
          ∃ cs' t', fillL e' (p :: ps) cs = some cs' ∧ cs'.length = n ∧ capT t' = capT t ∧ (n ≤ capT t → getL n t 0 = cs → getL n t' 0 = cs') ∧ k t' = true := by
        intro l hl hlen hk
        obtain ⟨cs', t', h1, h2, h3, h4, h5⟩ := gT_ok h ps (setL l cs p.off) _ k (by rw [setL_length (by omega)]; exact hn) hk
        refine ⟨cs', t', ?_, h2, h3.trans (capT_put _ _ _), fun hc hg => h4 (by rw [capT_put]; exact hc) ?_, h5⟩
        · simp only [fillL, hl]
          rw [hlen, hn, hb, Nat.beq_refl]
          exact h1
        · rw [getL_put hc (by omega), hg]
          rfl
      unfold gT at hk
      rw [hb] at hk
      cases h1 : Nat.beq p.m 1 with
      | true =>
        rw [h1] at hk
        change cellsK p.m ((gA p.x).g e) (fun l => (gT n ps).f e (setT t p.off (hdL l)) k) = true at hk
        obtain ⟨l, hl, hm, hk⟩ := cellsK_some hk
        rw [gA_ok h] at hl
        refine step l hl hm ?_
        have hm1 := Nat.eq_of_beq_eq_true h1
        match l, hm.trans hm1 with
        | [v], _ => exact hk
      | false =>
        rw [h1] at hk
        change cellsK p.m ((gA p.x).g e) (fun l => (gT n ps).f e (Kq.putL l t p.off) k) = true at hk
        obtain ⟨l, hl, hm, hk⟩ := cellsK_some hk
        rw [gA_ok h] at hl
        exact step l hl hm hk
/-- functions agree -/
def RF (F : Fn) (F' : Fns) : Prop := ∀ f l, Ref Eq (F.fn f l) (F'.fn f l)
section
variable {F : Fn} {F' : Fns} {e : E} {e' : Env}
theorem Ref.callF (hF : RF F F') (f : AV) (l : List AV) : Ref Eq (Kq.callF F f l) (Ev.callF F' f l) := by
  cases f <;> first | exact Ref.no | skip
  rename_i fn first cap
  show Ref Eq (F.fn fn (apL first (List.rec (motive := fun _ => List AV → List AV) (fun l => l) (fun v m _ l => apL l (v :: m)) cap l))) (F'.fn fn (first ++ (l ++ cap)))
  have hc : (List.rec (motive := fun _ => List AV → List AV) (fun l => l) (fun v m _ l => apL l (v :: m)) cap l : List AV) = l ++ cap := by
    cases cap with
    | nil => exact (List.append_nil l).symm
    | cons v m => exact apL_eq _ _
  rw [hc, apL_eq]
  exact hF _ _
theorem dO_st (m : Nat) (a v : Arg) : dO (.st m a v) = match Nat.beq m 1 with
    | true => ⟨fun _ e s k => st1F ((gA a).g e) ((gA v).g e) s k⟩
    | false => ⟨fun _ e s k => stnF m ((gA a).g e) ((gA v).g e) s k⟩ := rfl
theorem dO_ok (hF : RF F F') (h : RE e e') (o : PO) : Ref Eq ((dO o).v F e) (poR o F' e') := by
  cases o with
  | mv x =>
    show Ref Eq (M.pure ((gA x).g e)) (Ev.M.pure (arg x e'))
    rw [gA_ok h]; exact Ref.ret _
  | pick c a b =>
    show Ref Eq (Kq.pickF ((gA c).g e) ((gA a).g e) ((gA b).g e)) (Ev.pickF (arg c e') (arg a e') (arg b e'))
    rw [gA_ok h, gA_ok h, gA_ok h]; exact Ref.pickF _ _ _
  | new z cs => exact Ref.newF z cs
  | box z x =>
    show Ref Eq (Kq.boxF z ((gA x).g e)) (Ev.M.ofO (arg x e').cells fun l => Ev.newF z l)
    rw [gA_ok h]; exact Ref.boxF _ _
  | build cs ps =>
    show Ref Eq (M.ofO ((gF ps).f e cs) fun l => M.pure (AV.ag l)) (Ev.M.ofO (fillL e' ps cs) fun l => Ev.M.pure (AV.ag l))
    rw [gF_ok h]; exact Ref.ofO fun _ _ => Ref.ret _
  | bsl z cs len ps =>
    intro t s k hs hk
    change (gT (lnL cs) ps).f e (toT cs) (fun t1 => Kq.newT ⟨z, true, true⟩ (lnL cs) t1 t fun id s => k (.sl id 0 len len) s) = true at hk
    rw [lnL_eq] at hk
    obtain ⟨cs', t', h1, h2, h3, h4, h5⟩ := gT_ok h ps cs _ _ rfl hk
    have h6 : Ref Eq (M.bind (Kq.newT ⟨z, true, true⟩ cs.length t') fun id => M.pure (.sl id 0 len len)) (Ev.bslF z len cs') :=
      Ref.eqv (Ref.newT h2.symm fun hc => h4 (by rw [← h3]; exact hc) (toT_ok cs (by rw [← h3]; exact hc))) fun _ => Ref.ret _
    show ∃ a b t' s', Ev.M.ofO (fillL e' ps cs) (fun l => Ev.bslF z len l) s = some (b, s') ∧ _
    rw [h1]
    exact h6 t s k hs h5
  | ld1 a =>
    show Ref Eq (Kq.ldF ((gA a).g e)) (Ev.ldF (arg a e'))
    rw [gA_ok h]; exact Ref.ldF _
  | ldn m a =>
    show Ref Eq (Kq.ldnF m ((gA a).g e)) (Ev.ldnF m (arg a e'))
    rw [gA_ok h]; exact Ref.ldnF _ _
  | st m a v =>
    rw [dO_st]
    cases hb : Nat.beq m 1 with
    | true =>
      obtain rfl := Nat.eq_of_beq_eq_true hb
      show Ref Eq (Kq.st1F ((gA a).g e) ((gA v).g e)) (Ev.stF 1 (arg a e') (arg v e'))
      rw [gA_ok h, gA_ok h]; exact Ref.st1F _ _
    | false =>
      show Ref Eq (Kq.stnF m ((gA a).g e) ((gA v).g e)) (Ev.stF m (arg a e') (arg v e'))
      rw [gA_ok h, gA_ok h]; exact Ref.stnF _ _ _
  | nilc x =>
    show Ref Eq (Kq.nilF ((gA x).g e)) (Ev.nilF (arg x e'))
    rw [gA_ok h]; exact Ref.nilF _
  | bin o x y =>
    show Ref Eq ((dB o).v ((gA x).g e) ((gA y).g e)) (Ev.binF o (arg x e') (arg y e'))
    rw [gA_ok h, gA_ok h]; exact Ref.dB _ _ _
  | eq kd ng x y =>
    show Ref Eq (Kq.eqN kd ng ((gA x).g e) ((gA y).g e)) (Ev.eqN kd ng (arg x e') (arg y e'))
    rw [gA_ok h, gA_ok h]; exact Ref.eqN _ _ _ _
  | un o x =>
    have key : Ref Eq (M.ofO (unF o ((gA x).g e)) M.pure) (Ev.M.ofO (unF o (arg x e')) Ev.M.pure) := by
      rw [gA_ok h]; exact Ref.opt _
    cases o <;> first
      | exact key
      | (show Ref Eq (Kq.notF ((gA x).g e)) (Ev.M.ofO (unF .not (arg x e')) Ev.M.pure)
         rw [gA_ok h]; exact Ref.notF _)
  | cvi k x =>
    show Ref Eq (Kq.cviF k ((gA x).g e)) (Ev.cviF k (arg x e'))
    rw [gA_ok h]; exact Ref.cviF _ _
  | cvs x =>
    show Ref Eq (Kq.cvsF ((gA x).g e)) (Ev.cvsF (arg x e'))
    rw [gA_ok h]; exact Ref.cvsF _
  | cvb x =>
    show Ref Eq (Kq.cvbF ((gA x).g e)) (Ev.cvbF (arg x e'))
    rw [gA_ok h]; exact Ref.cvbF _
  | cvt x =>
    show Ref Eq (Kq.cvtF ((gA x).g e)) (Ev.cvtF (arg x e'))
    rw [gA_ok h]; exact Ref.cvtF _
  | cvm x =>
    show Ref Eq (Kq.cvmF ((gA x).g e)) (Ev.cvmF (arg x e'))
    rw [gA_ok h]; exact Ref.cvmF _
  | mkf fn a b =>
    show Ref Eq (M.pure (AV.f fn ((gL a).g e) ((gL b).g e))) (Ev.M.pure (AV.f fn (args a e') (args b e')))
    rw [gL_ok h, gL_ok h]; exact Ref.ret _
  | mks z cs l c =>
    show Ref Eq (Kq.mksF z cs ((gA l).g e) ((gA c).g e)) (Ev.mksF z cs (arg l e') (arg c e'))
    rw [gA_ok h, gA_ok h]; exact Ref.mksF _ _ _ _
  | sls w x lo hi mx =>
    show Ref Eq (M.ofO (slsF w ((gA x).g e) ((gO lo).g e) ((gO hi).g e) ((gO mx).g e)) M.pure) (Ev.M.ofO (slsF w (arg x e') (argO lo e') (argO hi e') (argO mx e')) Ev.M.pure)
    rw [gA_ok h, gO_ok h, gO_ok h, gO_ok h]; exact Ref.opt _
  | sla w n x lo hi mx =>
    show Ref Eq (M.ofO (slaF w n ((gA x).g e) ((gO lo).g e) ((gO hi).g e) ((gO mx).g e)) M.pure) (Ev.M.ofO (slaF w n (arg x e') (argO lo e') (argO hi e') (argO mx e')) Ev.M.pure)
    rw [gA_ok h, gO_ok h, gO_ok h, gO_ok h]; exact Ref.opt _
  | slt x lo hi =>
    show Ref Eq (M.ofO (sltF ((gA x).g e) ((gO lo).g e) ((gO hi).g e)) M.pure) (Ev.M.ofO (sltF (arg x e') (argO lo e') (argO hi e')) Ev.M.pure)
    rw [gA_ok h, gO_ok h, gO_ok h]; exact Ref.opt _
  | fad off x =>
    show Ref Eq (Kq.fadF off ((gA x).g e)) (Ev.fadF off (arg x e'))
    rw [gA_ok h]; exact Ref.fadF _ _
  | ixa n w x i =>
    show Ref Eq (Kq.ixaF n w ((gA x).g e) ((gA i).g e)) (Ev.ixaF n w (arg x e') (arg i e'))
    rw [gA_ok h, gA_ok h]; exact Ref.ixaF _ _ _ _
  | ixs w x i =>
    show Ref Eq (Kq.ixsF w ((gA x).g e) ((gA i).g e)) (Ev.ixsF w (arg x e') (arg i e'))
    rw [gA_ok h, gA_ok h]; exact Ref.ixsF _ _ _
  | ext x j =>
    show Ref Eq (Kq.extK (dX j) ((gA x).g e)) (Ev.extF (arg x e') j)
    rw [gA_ok h]; exact Ref.extF _ _
  | calv f l =>
    show Ref Eq (Kq.callF F ((gA f).g e) ((gL l).g e)) (Ev.callF F' (arg f e') (args l e'))
    rw [gA_ok h, gL_ok h]; exact Ref.callF hF _ _
  | app z w s x =>
    show Ref Eq (Kq.appF z w ((gA s).g e) ((gA x).g e)) (Ev.appF z w (arg s e') (arg x e'))
    rw [gA_ok h, gA_ok h]; exact Ref.appF _ _ _ _
  | apz z w cs s x =>
    show Ref Eq (Kq.apzF z w cs ((gA s).g e) ((gA x).g e)) (Ev.apzF z w cs (arg s e') (arg x e'))
    rw [gA_ok h, gA_ok h]; exact Ref.apzF _ _ _ _ _
  | cpy w d x =>
    show Ref Eq (Kq.cpyF w ((gA d).g e) ((gA x).g e)) (Ev.cpyF w (arg d e') (arg x e'))
    rw [gA_ok h, gA_ok h]; exact Ref.cpyF _ _ _
  | clr cs d =>
    show Ref Eq (Kq.clrF cs ((gA d).g e)) (Ev.clrF cs (arg d e'))
    rw [gA_ok h]; exact Ref.clrF _ _
  | len x =>
    show Ref Eq (Kq.lenK ((gA x).g e)) (Ev.M.ofO (lenF (arg x e')) Ev.M.pure)
    rw [gA_ok h]; exact Ref.lenK _
  | lns x =>
    show Ref Eq (M.ofO (lnsF ((gA x).g e)) M.pure) (Ev.M.ofO (lnsF (arg x e')) Ev.M.pure)
    rw [gA_ok h]; exact Ref.opt _
  | cap x =>
    show Ref Eq (M.ofO (capF ((gA x).g e)) M.pure) (Ev.M.ofO (capF (arg x e')) Ev.M.pure)
    rw [gA_ok h]; exact Ref.opt _
  | mm mx x l =>
    show Ref Eq (M.ofO (mmF mx ((gA x).g e) ((gL l).g e)) M.pure) (Ev.M.ofO (mmF mx (arg x e') (args l e')) Ev.M.pure)
    rw [gA_ok h, gL_ok h]; exact Ref.opt _
theorem dP_ok (hF : RF F F') (h : RE e e') (o : PO) (d : Option Nat) : Ref RE ((dP o d).v F e) (Ev.M.bind (poR o F' e') fun v => Ev.M.pure (putO d v e')) := by
  unfold dP
  cases hp : pD d with
  | none => exact Ref.no
  | some p =>
    have key : Ref RE (M.bind ((dO o).v F e) fun v => M.pure (p.p v e)) (Ev.M.bind (poR o F' e') fun v => Ev.M.pure (putO d v e')) := by
      refine Ref.bind (R := Eq) (dO_ok hF h o) fun a b hab => ?_
      subst hab
      exact Ref.pure (h.put hp _)
    cases o <;> exact key
theorem dU_ok (h : RE e e') (d : Option Nat) : Ref RE ((dU d).v F e) (Ev.M.bind (Ev.M.pure und) fun v => Ev.M.pure (putO d v e')) := by
  unfold dU
  cases hp : pD d with
  | none => exact Ref.no
  | some p => exact Ref.pure (h.put hp und)
theorem dS_ok (hF : RF F F') (h : RE e e') (o : PS) : Ref RE ((dS o).v F e) (psR o F' e') := by
  obtain ⟨g, d, o⟩ := o
  cases g with
  | none => exact dP_ok hF h o d
  | some g =>
    obtain ⟨n, want⟩ := g
    cases want
    · show Ref RE (sel ((gtS n).g e) (dU d) (dP o d) (dU d) F e) _
      unfold psR psV
      dsimp only [wanted]
      rw [h n]
      cases e' n <;> first | exact dU_ok h d | skip
      rename_i t
      cases t
      · exact dP_ok hF h o d
      · exact dU_ok h d
    · show Ref RE (sel ((gtS n).g e) (dP o d) (dU d) (dU d) F e) _
      unfold psR psV
      dsimp only [wanted]
      rw [h n]
      cases e' n <;> first | exact dU_ok h d | skip
      rename_i t
      cases t
      · exact dU_ok h d
      · exact dP_ok hF h o d
end
theorem dOps_ok {F : Fn} {F' : Fns} (hF : RF F F') : ∀ (l : List PS) (e : E) (e' : Env), RE e e' → Ref RE ((dOps l).v F e) (opsR F' l e')
  | [], e, e', h => Ref.pure h
  | o :: l, e, e', h => by
    show Ref RE (M.bind ((dS o).v F e) fun e => (dOps l).v F e) (Ev.M.bind (psR o F' e') fun e => opsR F' l e)
    exact Ref.bind (dS_ok hF h o) fun a b hab => dOps_ok hF l a b hab

/- what a drawn region asks -/
theorem hitQ_eq (a b : Rng) : hitQ a b = hit a b := by
  unfold hitQ hit
  rw [nmQ_eq, nmQ_eq]
  cases Nat.beq a.id.num b.id.num <;> dsimp only
  · rfl
  · have h1 : Nat.blt a.lo (Nat.add b.lo b.m) = Nat.blt a.lo (b.lo + b.m) := rfl
    rw [h1]
    cases Nat.blt a.lo (b.lo + b.m) <;> rfl
theorem anyQ_eq (x : Rng) : ∀ l : List Rng, anyQ x l = l.any fun y => hit x y
  | [] => rfl
  | y :: l => by
    show Bool.rec (motive := fun _ => (Rng → Bool) → Rng → Bool) (fun ih x => ih x) (fun _ _ => true) (hitQ x y) (fun x => anyQ x l) x = _
    rw [hitQ_eq, List.any_cons]
    cases hit x y
    · exact anyQ_eq x l
    · rfl
theorem hits_nil (a : List Rng) : hits a [] = false := by
  induction a with
  | nil => rfl
  | cons x a ih =>
    unfold hits at ih ⊢
    rw [List.any_cons, ih]
    rfl
theorem hitR_eq (b : List Rng) : ∀ a : List Rng, hitR a b = hits a b
  | [] => rfl
  | x :: a => by
    show Bool.rec (motive := fun _ => (List Rng → Bool) → List Rng → Bool) (fun ih b => ih b) (fun _ _ => true) (anyQ x b) (fun b => hitR a b) b = _
    have ih := hitR_eq b a
    rw [anyQ_eq]
    unfold hits at ih ⊢
    rw [List.any_cons]
    cases b.any fun z => hit x z
    · exact ih
    · rfl
theorem hitsQ_eq (a b : List Rng) : hitsQ a b = hits a b := by
  cases b with
  | nil => rw [hits_nil]; rfl
  | cons y b => exact hitR_eq (y :: b) a
theorem clashQ_eq (m : Nat) (b a : Ft) : clashQ m b a = clash m b a := by
  unfold clashQ clash
  simp only [hitsQ_eq]
  cases Nat.testBit m a.i <;> rfl
/-- what is told of operations that touch memory, and of all -/
inductive RA : Nat → Nat → List Ft → List Ft → Prop where
  | nil : RA 0 0 [] []
  | keep {i mem : Nat} {x y : List Ft} (r w : List Rng) : RA i mem x y → RA (i + 1) (Nat.lor mem (Nat.shiftLeft 1 i)) (⟨i, r, w⟩ :: x) (⟨i, r, w⟩ :: y)
  | drop {i mem : Nat} {x y : List Ft} : RA i mem x y → RA (i + 1) mem x (⟨i, [], []⟩ :: y)
theorem clash_nil (m : Nat) (b : Ft) (i : Nat) : clash m b ⟨i, [], []⟩ = false := by
  unfold clash
  cases Nat.testBit m (Ft.i ⟨i, [], []⟩) <;> rfl
theorem RA.any {i mem : Nat} {x y : List Ft} (h : RA i mem x y) (m : Nat) (b : Ft) : y.any (clash m b) = x.any (clash m b) := by
  induction h with
  | nil => rfl
  | keep r w _ ih => rw [List.any_cons, List.any_cons, ih]
  | drop _ ih => rw [List.any_cons, ih, clash_nil, Bool.false_or]
theorem testBit_self (i : Nat) : Nat.testBit (Nat.shiftLeft 1 i) i = true := by
  show Nat.testBit (1 <<< i) i = true
  simp [Nat.testBit_shiftLeft]
theorem RA.mem {i mem : Nat} {x y : List Ft} (h : RA i mem x y) : ∀ a ∈ x, Nat.testBit mem a.i = true := by
  induction h with
  | nil => intro a ha; cases ha
  | @keep i mem x y r w _ ih =>
    intro a ha
    show Nat.testBit (mem ||| Nat.shiftLeft 1 i) a.i = true
    rw [Nat.testBit_or]
    rcases List.mem_cons.1 ha with rfl | ha
    · rw [testBit_self, Bool.or_true]
    · rw [ih a ha, Bool.true_or]
  | drop _ ih => exact ih
theorem RA.quiet {i mem : Nat} {x y : List Ft} (h : RA i mem x y) {m : Nat} (hm : Nat.beq (Nat.land mem m) mem = true) (b : Ft) : x.any (clash m b) = false := by
  rw [List.any_eq_false]
  intro a ha
  have h1 := h.mem a ha
  have h2 : mem &&& m = mem := Nat.eq_of_beq_eq_true hm
  rw [← h2, Nat.testBit_and, Bool.and_eq_true] at h1
  unfold clash
  rw [h1.2]
  simp
/-- an operation that touches no memory leaves the state -/
theorem quiet_op {o : PO} (hm : memP o = false) (F : Fns) (e : Env) (s : S) : poR o F e s = none ∨ ∃ v, (∀ s, poR o F e s = some (v, s)) := by
  have hof : ∀ x : Option AV, Ev.M.ofO x Ev.M.pure s = none ∨ ∃ v, (∀ s, Ev.M.ofO x Ev.M.pure s = some (v, s)) := fun x => by
    cases x with
    | none => exact .inl rfl
    | some v => exact .inr ⟨v, fun s => rfl⟩
  cases o <;> first | (cases hm; done) | skip
  case mv x => exact .inr ⟨_, fun s => rfl⟩
  case pick c a b =>
    show Ev.pickF (arg c e) (arg a e) (arg b e) s = none ∨ ∃ v, ∀ s, Ev.pickF (arg c e) (arg a e) (arg b e) s = some (v, s)
    cases arg c e <;> first | exact .inl rfl | skip
    rename_i t
    cases t <;> exact .inr ⟨_, fun s => rfl⟩
  case build cs ps =>
    show Ev.M.ofO (fillL e ps cs) (fun l => Ev.M.pure (AV.ag l)) s = none ∨ ∃ v, ∀ s, Ev.M.ofO (fillL e ps cs) (fun l => Ev.M.pure (AV.ag l)) s = some (v, s)
    cases fillL e ps cs with
    | none => exact .inl rfl
    | some l => exact .inr ⟨_, fun s => rfl⟩
  case nilc x =>
    show Ev.nilF (arg x e) s = none ∨ ∃ v, ∀ s, Ev.nilF (arg x e) s = some (v, s)
    cases arg x e <;> first | exact .inl rfl | exact .inr ⟨_, fun s => rfl⟩
  case bin o x y =>
    show Ev.binF o (arg x e) (arg y e) s = none ∨ ∃ v, ∀ s, Ev.binF o (arg x e) (arg y e) s = some (v, s)
    have hstr : ∀ (x : List Nat) (y : AV), Ev.strF o x y s = none ∨ ∃ v, ∀ s, Ev.strF o x y s = some (v, s) := fun x y => by
      cases y <;> first | exact .inl rfl | skip
      rename_i y
      cases o <;> first | exact .inl rfl | exact .inr ⟨_, fun s => rfl⟩ | skip
      show Ev.M.ifB (Nat.ble (x.length + y.length) lim) (Ev.M.pure (AV.s (x ++ y))) s = none ∨ ∃ v, ∀ s, Ev.M.ifB (Nat.ble (x.length + y.length) lim) (Ev.M.pure (AV.s (x ++ y))) s = some (v, s)
      cases Nat.ble (x.length + y.length) lim with
      | false => exact .inl rfl
      | true => exact .inr ⟨_, fun s => rfl⟩
    have hif : ∀ (b : Bool) (x : Option AV), Ev.M.ifB b (Ev.M.ofO x Ev.M.pure) s = none ∨ ∃ v, ∀ s, Ev.M.ifB b (Ev.M.ofO x Ev.M.pure) s = some (v, s) := fun b x => by
      cases b with
      | false => exact .inl rfl
      | true => exact hof x
    cases arg x e <;> first | exact .inl rfl | exact hstr _ _ | skip
    cases arg y e <;> first | exact .inl rfl | skip
    cases o <;> first | exact hof _ | exact hif _ _
  case un o x => exact hof _
  case cvi k x =>
    show Ev.cviF k (arg x e) s = none ∨ ∃ v, ∀ s, Ev.cviF k (arg x e) s = some (v, s)
    cases arg x e <;> first | exact .inl rfl | exact .inr ⟨_, fun s => rfl⟩
  case mkf fn a b => exact .inr ⟨_, fun s => rfl⟩
  case fad off x =>
    show Ev.fadF off (arg x e) s = none ∨ ∃ v, ∀ s, Ev.fadF off (arg x e) s = some (v, s)
    cases arg x e <;> first | exact .inl rfl | exact .inr ⟨_, fun s => rfl⟩
  case ixa n w x i =>
    show Ev.ixaF n w (arg x e) (arg i e) s = none ∨ ∃ v, ∀ s, Ev.ixaF n w (arg x e) (arg i e) s = some (v, s)
    unfold Ev.ixaF
    cases natOf (arg i e) with
    | none => exact .inl rfl
    | some a =>
      cases arg x e <;> first | exact .inl rfl | skip
      dsimp only [Ev.M.ofO]
      cases Nat.blt a n with
      | false => exact .inl rfl
      | true => exact .inr ⟨_, fun s => rfl⟩
  case ixs w x i =>
    show Ev.ixsF w (arg x e) (arg i e) s = none ∨ ∃ v, ∀ s, Ev.ixsF w (arg x e) (arg i e) s = some (v, s)
    unfold Ev.ixsF
    cases natOf (arg i e) with
    | none => exact .inl rfl
    | some a =>
      cases arg x e with
      | sl id off len cap =>
        dsimp only [Ev.M.ofO]
        cases Nat.blt a len with
        | false => exact .inl rfl
        | true => exact .inr ⟨_, fun s => rfl⟩
      | so id off len k w' =>
        dsimp only [Ev.M.ofO]
        cases Nat.blt a len with
        | false => exact .inl rfl
        | true => exact .inr ⟨_, fun s => rfl⟩
      | _ => exact .inl rfl
  case ext x j =>
    show Ev.extF (arg x e) j s = none ∨ ∃ v, ∀ s, Ev.extF (arg x e) j s = some (v, s)
    cases arg x e <;> first | exact .inl rfl | exact hof _
  case len x => exact hof _
  case mm mx x l => exact hof _
theorem quiet_ps {o : PS} (hm : memP o.o = false) (F : Fns) (e : Env) (s : S) : psR o F e s = none ∨ ∃ v, (∀ s, psR o F e s = some (v, s)) := by
  unfold psR psV
  cases wanted o.g e with
  | true =>
    rcases quiet_op hm F e s with h | ⟨v, h⟩
    · left
      simp only [Ev.M.bind, h]
    · right
      exact ⟨_, fun s => by simp only [Ev.M.bind, h]; rfl⟩
  | false => exact .inr ⟨_, fun s => rfl⟩
/-- an operation with its own lists -/
theorem dAp_ok {F : Fn} {o : SV} {e : E} {m : Ev.M Env} (h : Ref RE (o.v F e) m) {t : St} {s : S} {k : E → List Rng → List Rng → St → Bool} (hs : RS t s) (hk : (dAp o).v F e t k = true) :
    ∃ a b r w t' s', Ev.M.apart m s = some ((b, r, w), s') ∧ RE a b ∧ RS t' s' ∧ k a r w t' = true := by
  obtain ⟨tr, hh, n, r, w⟩ := t
  obtain ⟨tr', hh', n', r', w'⟩ := s
  obtain ⟨e1, e2, e3, e4, e5⟩ := hs
  simp only at e1 e3 e4 e5
  subst e1 e3 e4 e5
  change o.v F e ⟨true, hh, n, [], []⟩ (fun e' t => apQ tr r w e' t k) = true at hk
  obtain ⟨a, b, t1, s1, h1, h2, h3, h4⟩ := h ⟨true, hh, n, [], []⟩ ⟨true, hh', n, [], []⟩ _ ⟨rfl, e2, rfl, rfl, rfl⟩ hk
  obtain ⟨tr1, hh1, n1, r1, w1⟩ := t1
  obtain ⟨tr1', hh1', n1', r1', w1'⟩ := s1
  obtain ⟨f1, f2, f3, f4, f5⟩ := h3
  simp only at f1 f3 f4 f5
  subst f1 f3 f4 f5
  unfold Ev.M.apart
  simp only [h1]
  cases tr
  · exact ⟨a, b, r1, w1, ⟨false, hh1, n1, r, w⟩, _, rfl, h2, ⟨rfl, f2, rfl, rfl, rfl⟩, h4⟩
  · exact ⟨a, b, r1, w1, ⟨true, hh1, n1, r1 ++ r, w1 ++ w⟩, _, rfl, h2, ⟨rfl, f2, rfl, rfl, rfl⟩, h4⟩
theorem dDrw_ok {F : Fn} {F' : Fns} (hF : RF F F') : ∀ (l : List PS) (ms : List Nat) (acc acc' : List Ft) (i mem : Nat) (e : E) (e' : Env), RE e e' → RA i mem acc acc' → Ref RE ((dDrw l ms i mem).v F acc e) (drwR F' l ms acc' i e')
  | [], ms, acc, acc', i, mem, e, e', h, ha => Ref.pure h
  | o :: l, [], acc, acc', i, mem, e, e', h, ha => Ref.no
  | o :: l, m :: ms, acc, acc', i, mem, e, e', h, ha => by
    intro t s k hs hk
    unfold dDrw at hk
    have hdrw : ∀ {b : Env} {r w : List Rng} {s1 : S}, Ev.M.apart (psR o F' e') s = some ((b, r, w), s1) → acc'.any (clash m ⟨i, r, w⟩) = false →
        drwR F' (o :: l) (m :: ms) acc' i e' s = drwR F' l ms (⟨i, r, w⟩ :: acc') (i + 1) b s1 := fun h1 h2 => by
      simp only [drwR, Ev.M.bind, h1, h2]
    cases hm : memP o.o with
    | false =>
      simp only [hm] at hk
      change (dS o).v F e t (fun e s => (dDrw l ms (i + 1) mem).v F acc e s k) = true at hk
      obtain ⟨a, b, t1, s1, h1, h2, h3, h4⟩ := dS_ok hF h o t s _ hs hk
      rcases quiet_ps hm F' e' s with hn | ⟨v, hv⟩
      · rw [hn] at h1; cases h1
      · rw [hv s] at h1
        cases h1
        have hap : Ev.M.apart (psR o F' e') s = some ((b, [], []), s) := by
          obtain ⟨tr, hh, n, r, w⟩ := s
          unfold Ev.M.apart
          simp only [hv]
          cases tr <;> rfl
        have hcl : acc'.any (clash m ⟨i, [], []⟩) = false := by
          rw [List.any_eq_false]
          intro x _
          unfold clash
          cases Nat.testBit m x.i
          · simp only [hits_nil]
            simp
          · simp
        rw [hdrw hap hcl]
        exact dDrw_ok hF l ms acc _ (i + 1) mem a b h2 ha.drop t1 s k h3 h4
    | true =>
      simp only [hm] at hk
      have hgo : ∀ {r w : List Rng} {a : E} {b : Env} {t1 : St} {s1 : S}, Ev.M.apart (psR o F' e') s = some ((b, r, w), s1) → acc'.any (clash m ⟨i, r, w⟩) = false → RE a b → RS t1 s1 →
          (dDrw l ms (i + 1) (Nat.lor mem (Nat.shiftLeft 1 i))).v F (⟨i, r, w⟩ :: acc) a t1 k = true → ∃ a b t' s', drwR F' (o :: l) (m :: ms) acc' i e' s = some (b, s') ∧ RE a b ∧ RS t' s' ∧ k a t' = true := fun h1 h2 h3 h4 h5 => by
        rw [hdrw h1 h2]
        exact dDrw_ok hF l ms _ _ (i + 1) _ _ _ h3 (ha.keep _ _) _ _ k h4 h5
      cases hb : Nat.beq (Nat.land mem m) mem with
      | true =>
        simp only [hb] at hk
        change (dAp (dS o)).v F e t (fun e r w s => (dDrw l ms (i + 1) (Nat.lor mem (Nat.shiftLeft 1 i))).v F (⟨i, r, w⟩ :: acc) e s k) = true at hk
        obtain ⟨a, b, r, w, t1, s1, h1, h2, h3, h4⟩ := dAp_ok (dS_ok hF h o) hs hk
        exact hgo h1 (by rw [ha.any]; exact ha.quiet hb _) h2 h3 h4
      | false =>
        simp only [hb] at hk
        change (dAp (dS o)).v F e t (fun e r w s => Bool.rec (motive := fun _ => (Fn → List Ft → E → St → (E → St → Bool) → Bool) → Fn → List Ft → E → St → (E → St → Bool) → Bool) (fun g F acc e s k => g F acc e s k) (fun _ _ _ _ _ _ => false) (acc.any (clashQ m ⟨i, r, w⟩)) (dDrw l ms (i + 1) (Nat.lor mem (Nat.shiftLeft 1 i))).v F (⟨i, r, w⟩ :: acc) e s k) = true at hk
        obtain ⟨a, b, r, w, t1, s1, h1, h2, h3, h4⟩ := dAp_ok (dS_ok hF h o) hs hk
        have hq : clashQ m ⟨i, r, w⟩ = clash m ⟨i, r, w⟩ := by funext x; exact clashQ_eq _ _ _
        rw [hq] at h4
        cases hc : acc.any (clash m ⟨i, r, w⟩) with
        | true => rw [hc] at h4; cases h4
        | false =>
          rw [hc] at h4
          exact hgo h1 (by rw [ha.any]; exact hc) h2 h3 h4

/-- how a piece of code ends -/
def RefC (q : St → (E → St → Bool) → (Ex → E → St → Bool) → Bool) (m : Ev.M (Option Ex × Env)) : Prop := ∀ t s k x, RS t s → q t k x = true →
  ∃ e1 t1 y s', m s = some (y, s') ∧ RE e1 y.2 ∧ RS t1 s' ∧ ((y.1 = none ∧ k e1 t1 = true) ∨ ∃ ex, y.1 = some ex ∧ x ex e1 t1 = true)
theorem RefC.of {q : M E} {m : Ev.M Env} (h : Ref RE q m) : RefC (fun s k _ => q s k) (Ev.M.bind m fun e => Ev.M.pure (none, e)) := by
  intro t s k x hs hk
  obtain ⟨a, b, t1, s1, h1, h2, h3, h4⟩ := h t s k hs hk
  exact ⟨a, t1, (none, b), s1, by simp only [Ev.M.bind, h1]; rfl, h2, h3, .inl ⟨rfl, h4⟩⟩
theorem itQ_ok {c : Fn → E → St → (E → St → Bool) → (Ex → E → St → Bool) → Bool} {F : Fn} {m : Env → Ev.M (Option Ex × Env)} (hb : ∀ e e', RE e e' → RefC (c F e) (m e')) : ∀ (n : Nat) (e : E) (e' : Env), RE e e' → RefC (fun s k x => itQ n c F e s k x) (iter n m e')
  | 0, e, e', h => fun t s k x hs hk => by cases hk
  | n + 1, e, e', h => fun t s k x hs hk => by
    change c F e t (fun e s => itQ n c F e s k x) x = true at hk
    obtain ⟨e1, t1, y, s1, h1, h2, h3, h4⟩ := hb e e' h t s _ _ hs hk
    obtain ⟨y1, y2⟩ := y
    rcases h4 with ⟨rfl, h4⟩ | ⟨ex, rfl, h4⟩
    · obtain ⟨e2, t2, z, s2, g1, g2, g3, g4⟩ := itQ_ok hb n e1 y2 h2 t1 s1 k x h3 h4
      exact ⟨e2, t2, z, s2, by simp only [iter, Ev.M.bind, h1, g1], g2, g3, g4⟩
    · exact ⟨e1, t1, (some ex, y2), s1, by simp only [iter, Ev.M.bind, h1]; rfl, h2, h3, .inr ⟨ex, rfl, h4⟩⟩
theorem dC_ok {F : Fn} {F' : Fns} (hF : RF F F') : ∀ (c : PC) (e : E) (e' : Env), RE e e' → RefC ((dC c).v F e) (coR F' c e')
  | .skip, e, e', h => fun t s k x hs hk => ⟨e, t, _, s, rfl, h, hs, .inl ⟨rfl, hk⟩⟩
  | .ret, e, e', h => fun t s k x hs hk => ⟨e, t, _, s, rfl, h, hs, .inr ⟨_, rfl, hk⟩⟩
  | .exit id, e, e', h => fun t s k x hs hk => ⟨e, t, _, s, rfl, h, hs, .inr ⟨_, rfl, hk⟩⟩
  | .seq a b, e, e', h => fun t s k x hs hk => by
    change (dC a).v F e t (fun e s => (dC b).v F e s k x) x = true at hk
    obtain ⟨e1, t1, y, s1, h1, h2, h3, h4⟩ := dC_ok hF a e e' h t s _ _ hs hk
    obtain ⟨y1, y2⟩ := y
    rcases h4 with ⟨rfl, h4⟩ | ⟨ex, rfl, h4⟩
    · obtain ⟨e2, t2, z, s2, g1, g2, g3, g4⟩ := dC_ok hF b e1 y2 h2 t1 s1 k x h3 h4
      exact ⟨e2, t2, z, s2, by simp only [coR, Ev.M.bind, h1, g1], g2, g3, g4⟩
    · exact ⟨e1, t1, (some ex, y2), s1, by simp only [coR, Ev.M.bind, h1]; rfl, h2, h3, .inr ⟨ex, rfl, h4⟩⟩
  | .cond c a b, e, e', h => fun t s k x hs hk => by
    change cndQ ((gA c).g e) (dC a) (dC b) F e t k x = true at hk
    rw [gA_ok h] at hk
    simp only [coR]
    cases hc : arg c e' <;> rw [hc] at hk <;> first | (cases hk; done) | skip
    rename_i v
    cases v
    · exact dC_ok hF b e e' h t s k x hs hk
    · exact dC_ok hF a e e' h t s k x hs hk
  | .block id b, e, e', h => fun t s k x hs hk => by
    change (dC b).v F e t k (fun ex e s => blQ id ex e s k x) = true at hk
    obtain ⟨e1, t1, y, s1, h1, h2, h3, h4⟩ := dC_ok hF b e e' h t s _ _ hs hk
    obtain ⟨y1, y2⟩ := y
    rcases h4 with ⟨rfl, h4⟩ | ⟨ex, rfl, h4⟩
    · exact ⟨e1, t1, (none, y2), s1, by simp only [coR, Ev.M.bind, h1]; rfl, h2, h3, .inl ⟨rfl, h4⟩⟩
    · cases ex with
      | ret => exact ⟨e1, t1, (some .ret, y2), s1, by simp only [coR, Ev.M.bind, h1]; rfl, h2, h3, .inr ⟨_, rfl, h4⟩⟩
      | exit j =>
        unfold blQ at h4
        dsimp only at h4
        cases hj : Nat.beq j id with
        | true =>
          rw [hj] at h4
          exact ⟨e1, t1, (none, y2), s1, by simp only [coR, Ev.M.bind, h1, hj]; rfl, h2, h3, .inl ⟨rfl, h4⟩⟩
        | false =>
          rw [hj] at h4
          exact ⟨e1, t1, (some (.exit j), y2), s1, by simp only [coR, Ev.M.bind, h1, hj]; rfl, h2, h3, .inr ⟨_, rfl, h4⟩⟩
  | .loop b, e, e', h => fun t s k x hs hk => by
    change itQ rounds (dC b).v F e t k x = true at hk
    simp only [coR]
    revert hk
    generalize rounds = N
    intro hk
    exact itQ_ok (fun e e' h => dC_ok hF b e e' h) N e e' h t s k x hs hk
  | .reg ops, e, e', h => RefC.of (dOps_ok hF ops e e' h)
  | .drw ops ms, e, e', h => RefC.of (dDrw_ok hF ops ms [] [] 0 0 e e' h .nil)
theorem dR_ok {e : E} {e' : Env} (h : RE e e') : ∀ l : List PR, Ref Eq ((dR l).v e) (resL e' l)
  | [] => Ref.ret _
  | .t n :: l => by
    show Ref Eq (M.bind ((dR l).v e) fun vs => M.pure ((gtS n).g e :: vs)) _
    simp only [resL, h n]
    exact Ref.eqv (dR_ok h l) fun vs => Ref.ret _
  | .c1 n :: l => by
    show Ref Eq (M.bind (Kq.ldF ((gtS n).g e)) fun v => M.bind ((dR l).v e) fun vs => M.pure (v :: vs)) _
    simp only [resL, h n]
    exact Ref.eqv (Ref.ldF _) fun v => Ref.eqv (dR_ok h l) fun vs => Ref.ret _
  | .cn m n :: l => by
    show Ref Eq (M.bind (Kq.ldnF m ((gtS n).g e)) fun v => M.bind ((dR l).v e) fun vs => M.pure (v :: vs)) _
    simp only [resL, h n]
    exact Ref.eqv (Ref.ldnF _ _) fun v => Ref.eqv (dR_ok h l) fun vs => Ref.ret _
theorem gt_l (c : Dg) : gt c l1 = und := gt_all c und
theorem gt_e8 (l : List AV) (n : Nat) (hn : l.length ≤ 8 ∨ n < 8) : (gtS n).g ⟨pk l, l2, l3⟩ = match l[n]? with
    | some v => v
    | none => und := by
  cases ha : dgs (n / 64) with
  | none =>
    have hbig : 64 ≤ n := by
      rcases Nat.lt_or_ge n 64 with h | h
      · rw [Nat.div_eq_of_lt h] at ha; cases ha
      · exact h
    unfold gtS
    rw [ha, List.getElem?_eq_none (by omega)]
  | some a =>
    cases hb : dgs (n / 8 % 8) with
    | none =>
      exfalso
      have : n / 8 % 8 < 8 := Nat.mod_lt _ (by omega)
      revert hb
      generalize n / 8 % 8 = q at this
      match q, this with
      | 0, _ => simp [dgs]
      | 1, _ => simp [dgs]
      | 2, _ => simp [dgs]
      | 3, _ => simp [dgs]
      | 4, _ => simp [dgs]
      | 5, _ => simp [dgs]
      | 6, _ => simp [dgs]
      | 7, _ => simp [dgs]
      | _ + 8, h => omega
    | some b =>
      cases hc : dgs (n % 8) with
      | none =>
        exfalso
        have : n % 8 < 8 := Nat.mod_lt _ (by omega)
        revert hc
        generalize n % 8 = q at this
        match q, this with
        | 0, _ => simp [dgs]
        | 1, _ => simp [dgs]
        | 2, _ => simp [dgs]
        | 3, _ => simp [dgs]
        | 4, _ => simp [dgs]
        | 5, _ => simp [dgs]
        | 6, _ => simp [dgs]
        | 7, _ => simp [dgs]
        | _ + 8, h => omega
      | some c =>
        rw [gtS_eq ha hb hc]
        cases h8 : Nat.blt n 8 <;> dsimp only
        · have := blt_f h8
          rw [List.getElem?_eq_none (by omega)]
          cases Nat.blt n 64 <;> dsimp only
          · simp only [l3, gt_all, l2, gt_l]
          · simp only [l2, gt_all, gt_l]
        · have := blt_t h8
          rw [pk_get, ← dgs_val hc, Nat.mod_eq_of_lt this]
          cases l[n]? <;> rfl
theorem argQ_ok : ∀ (l : List AV) (i : Nat) (e e1 : E), argQ l i e = some e1 → ∀ n, (gtS n).g e1 = if n < i then (gtS n).g e else match l[n - i]? with
    | some v => v
    | none => (gtS n).g e
  | [], i, e, e1, h, n => by
    simp only [argQ] at h
    cases h
    simp
  | v :: l, i, e, e1, h, n => by
    simp only [argQ] at h
    cases hp : ptS i with
    | none => rw [hp] at h; cases h
    | some p =>
      rw [hp] at h
      rw [argQ_ok l (i + 1) _ e1 h n, gt_pt hp]
      by_cases h1 : n < i
      · rw [if_pos (by omega), if_neg (by omega), if_pos h1]
      · by_cases h2 : n = i
        · subst h2
          simp
        · obtain ⟨k, rfl⟩ : ∃ k, n = i + 1 + k := ⟨n - (i + 1), by omega⟩
          rw [if_neg (by omega), if_neg h1, if_neg (by omega)]
          rw [show i + 1 + k - (i + 1) = k by omega, show i + 1 + k - i = k + 1 by omega]
          rfl
theorem arg8_RE {l : List AV} {e : E} (h : arg8 l = some e) : RE e (argE l) := by
  intro n
  unfold arg8 at h
  rw [tl8_eq] at h
  show _ = match l[n]? with
    | some v => v
    | none => und
  cases ht : l.drop 8 with
  | nil =>
    rw [ht] at h
    cases h
    refine gt_e8 l n (.inl ?_)
    have := congrArg List.length ht
    simp at this
    omega
  | cons v m =>
    rw [ht] at h
    change argQ (tl8 l) 8 ⟨pk l, l2, l3⟩ = some e at h
    rw [tl8_eq] at h
    rw [argQ_ok _ 8 _ e h n]
    by_cases hn : n < 8
    · rw [if_pos hn]
      exact gt_e8 l n (.inr hn)
    · rw [if_neg hn, List.getElem?_drop, show 8 + (n - 8) = n by omega]
      cases hq : l[n]? with
      | some v => rfl
      | none =>
        have hz := gt_e8 [] n (.inl (by simp))
        show (gtS n).g ⟨pk l, l2, l3⟩ = und
        have hge : (gtS n).g ⟨pk l, l2, l3⟩ = (gtS n).g ⟨pk [], l2, l3⟩ := by
          cases ha : dgs (n / 64) with
          | none => unfold gtS; rw [ha]
          | some a =>
            cases hb : dgs (n / 8 % 8) with
            | none => unfold gtS; rw [ha, hb]
            | some b =>
              cases hc : dgs (n % 8) with
              | none => unfold gtS; rw [ha, hb, hc]
              | some c =>
                rw [gtS_eq ha hb hc, gtS_eq ha hb hc]
                have h8 : Nat.blt n 8 = false := by
                  cases hb8 : Nat.blt n 8 with
                  | false => rfl
                  | true => exact absurd (blt_t hb8) hn
                rw [h8]
        rw [hge, hz]
        rfl
theorem runQ_ok {oq : Nat → List AV → M AV} {os : Nat → List AV → Ev.M AV} (ho : ∀ k l, Ref Eq (oq k l) (os k l)) (X : Nat → Option PF) : ∀ n, RF (runQ oq X n) (run os X n)
  | 0 => fun f l => Ref.no
  | n + 1 => fun f l => by
    have hF := runQ_ok ho X n
    show Ref Eq ((dW oq (X f)).v (runQ oq X n) l) (fnR os X (run os X n) f l)
    unfold fnR
    cases X f with
    | none => exact Ref.no
    | some pf =>
      cases pf with
      | own k => exact ho k l
      | f body res =>
        intro t s k hs hk
        change Option.rec (motive := fun _ => Fn → St → (AV → St → Bool) → Bool) (fun _ _ _ => false) (fun e F s k => (dC body).v F e s (fun e s => (dR res).v e s fun vs s => k (oneR vs) s) fun ex e s => Ex.rec (motive := fun _ => E → St → (AV → St → Bool) → Bool) (fun e s k => (dR res).v e s fun vs s => k (oneR vs) s) (fun _ _ _ _ => false) ex e s k) (arg8 l) (runQ oq X n) t k = true at hk
        cases ha : arg8 l with
        | none => rw [ha] at hk; cases hk
        | some e =>
          rw [ha] at hk
          have hre := arg8_RE ha
          obtain ⟨e1, t1, y, s1, h1, h2, h3, h4⟩ := dC_ok hF body e (argE l) hre t s _ _ hs hk
          obtain ⟨y1, y2⟩ := y
          have fin : ∀ {y1 : Option Ex}, (coR (run os X n) body (argE l)) s = some ((y1, y2), s1) → (∀ j, y1 ≠ some (.exit j)) → (dR res).v e1 t1 (fun vs s => k (oneR vs) s) = true →
              ∃ a b t' s', walkR (run os X n) body res l s = some (b, s') ∧ a = b ∧ RS t' s' ∧ k a t' = true := fun {y1} h1 hj hk => by
            obtain ⟨vs, vs', t2, s2, g1, g2, g3, g4⟩ := dR_ok h2 res t1 s1 _ h3 hk
            subst g2
            refine ⟨_, _, t2, s2, ?_, rfl, g3, g4⟩
            cases y1 with
            | none => simp only [walkR, Ev.M.bind, h1, g1]; rfl
            | some ex =>
              cases ex with
              | ret => simp only [walkR, Ev.M.bind, h1, g1]; rfl
              | exit j => exact absurd rfl (hj j)
          rcases h4 with ⟨rfl, h4⟩ | ⟨ex, rfl, h4⟩
          · exact fin h1 (by simp) h4
          · cases ex with
            | ret => exact fin h1 (by simp) h4
            | exit j => cases h4
theorem rs0 : RS st0 S0 := ⟨rfl, ⟨fun id => by simp [st0, look_h6, S0], fun id b h => by rw [show st0.h = h6 from rfl, look_h6] at h; cases h⟩, rfl, rfl, rfl⟩
/-- WHAT THE KERNEL FINDS TRUE. -/
theorem ask_ok {oq : Nat → List AV → M AV} {os : Nat → List AV → Ev.M AV} (ho : ∀ k l, Ref Eq (oq k l) (os k l)) {X : Nat → Option PF} {n f : Nat} (h : ask oq X n f = true) : ∃ s', (run os X n).fn f [] S0 = some (.b true, s') := by
  obtain ⟨a, b, t', s', h1, h2, h3, h4⟩ := runQ_ok ho X n f [] st0 S0 _ rs0 h
  subst h2
  cases a <;> simp only [isT] at h4 <;> first | (cases h4; done) | skip
  subst h4
  exact ⟨s', h1⟩
end Kq
end Ev
end Go.Proofs.Ytijnjnncgkhabaa
