/- DERIVED. The quick evaluator's code and functions, against the plain one's. -/
import Derived.Test.YthknbcbkibbncaaGreatCn5
import Derived.Test.YthknbcbkibbncaaGreatCn6
import Derived.Test.YthknbcbkibbncaaGreatCn8
set_option linter.all false
set_option linter.unusedVariables false
namespace Go.Proofs.YthknbcbkibbncaaGreat
namespace Ev
namespace Kq

theorem dgs_val {n : Nat} {d : Dg} (h : dgs n = some d) : n = d.val := by
  unfold dgs at h
  split at h <;> cases h <;> rfl
theorem dgs_lt {n : Nat} {d : Dg} (h : dgs n = some d) : n < 8 := by
  rw [dgs_val h]; exact d.val_lt
def RE (e : E) (e' : Env) : Prop := ∀ n, (gtS n).g e = e' n
theorem gtS_eq {n : Nat} {a b c : Dg} (ha : dgs (n / 64) = some a) (hb : dgs (n / 8 % 8) = some b) (hc : dgs (n % 8) = some c) (e : E) :
    (gtS n).g e = match Nat.blt n 8 with
      | true => gt c e.lo
      | false => match Nat.blt n 64 with
        | true => gt c (gt b e.md)
        | false => gt c (gt b (gt a e.hi)) := by
  unfold gtS
  rw [ha, hb, hc]
  cases Nat.blt n 8 <;> cases Nat.blt n 64 <;> rfl
noncomputable def pE (d : Nat) (a b c : Dg) (v : AV) (e : E) : E := match Nat.blt d 8 with
  | true => ⟨up c (fun _ => v) e.lo, e.md, e.hi⟩
  | false => match Nat.blt d 64 with
    | true => ⟨e.lo, up b (up c fun _ => v) e.md, e.hi⟩
    | false => ⟨e.lo, e.md, up a (up b (up c fun _ => v)) e.hi⟩
theorem us1 (c : Dg) (v : AV) (t : N8 AV) (k : N8 AV → Bool) : (us c).f AV (fun _ k => k v) t k = k (up c (fun _ => v) t) := us_eq c (f' := fun _ => v) (fun _ _ => rfl) t k
theorem us2 (b c : Dg) (v : AV) (t : N8 (N8 AV)) (k : N8 (N8 AV) → Bool) : (us b).f (N8 AV) (fun t k => (us c).f AV (fun _ k => k v) t k) t k = k (up b (up c fun _ => v) t) := us_eq b (fun t k => us1 c v t k) t k
theorem us3 (a b c : Dg) (v : AV) (t : N8 (N8 (N8 AV))) (k : N8 (N8 (N8 AV)) → Bool) : (us a).f (N8 (N8 AV)) (fun t k => (us b).f (N8 AV) (fun t k => (us c).f AV (fun _ k => k v) t k) t k) t k = k (up a (up b (up c fun _ => v)) t) := us_eq a (fun t k => us2 b c v t k) t k
theorem ptS_eq {d : Nat} {p : P} (h : ptS d = some p) : ∃ a b c, dgs (d / 64) = some a ∧ dgs (d / 8 % 8) = some b ∧ dgs (d % 8) = some c ∧ ∀ v e k, p.p v e k = k (pE d a b c v e) := by
  unfold ptS at h
  cases ha : dgs (d / 64) with
  | none => rw [ha] at h; cases h
  | some a =>
    cases hb : dgs (d / 8 % 8) with
    | none => rw [ha, hb] at h; cases h
    | some b =>
      cases hc : dgs (d % 8) with
      | none => rw [ha, hb, hc] at h; cases h
      | some c =>
        rw [ha, hb, hc] at h
        refine ⟨a, b, c, rfl, rfl, rfl, fun v e k => ?_⟩
        unfold pE
        cases h8 : Nat.blt d 8 <;> rw [h8] at h
        · cases h64 : Nat.blt d 64 <;> rw [h64] at h
          · cases h; exact us3 a b c v e.hi fun hi => k ⟨e.lo, e.md, hi⟩
          · cases h; exact us2 b c v e.md fun md => k ⟨e.lo, md, e.hi⟩
        · cases h; exact us1 c v e.lo fun lo => k ⟨lo, e.md, e.hi⟩
theorem blt_t {a b : Nat} (h : Nat.blt a b = true) : a < b := Nat.le_of_ble_eq_true h
theorem blt_f {a b : Nat} (h : Nat.blt a b = false) : b ≤ a := by
  rcases Nat.lt_or_ge a b with h' | h'
  · have : Nat.blt a b = true := Nat.ble_eq_true_of_le h'
    rw [this] at h; cases h
  · exact h'
theorem gt_pE {d : Nat} {a b c : Dg} (ha : dgs (d / 64) = some a) (hb : dgs (d / 8 % 8) = some b) (hc : dgs (d % 8) = some c) (n : Nat) (v : AV) (e : E) : (gtS n).g (pE d a b c v e) = if n = d then v else (gtS n).g e := by
  unfold pE
  have e1 := dgs_val ha; have e2 := dgs_val hb; have e3 := dgs_val hc
  by_cases hn : n = d
  · subst hn
    rw [if_pos rfl, gtS_eq ha hb hc]
    cases Nat.blt n 8 <;> cases Nat.blt n 64 <;> simp only [gt_up]
  · rw [if_neg hn]
    cases ha' : dgs (n / 64) with
    | none => unfold gtS; rw [ha']
    | some a' =>
      cases hb' : dgs (n / 8 % 8) with
      | none => unfold gtS; rw [ha', hb']
      | some b' =>
        cases hc' : dgs (n % 8) with
        | none => unfold gtS; rw [ha', hb', hc']
        | some c' =>
          have f1 := dgs_val ha'; have f2 := dgs_val hb'; have f3 := dgs_val hc'
          rw [gtS_eq ha' hb' hc', gtS_eq ha' hb' hc']
          cases h8 : Nat.blt n 8 <;> cases g8 : Nat.blt d 8 <;> dsimp only
          · cases h64 : Nat.blt n 64 <;> cases g64 : Nat.blt d 64 <;> dsimp only
            · by_cases h1 : a' = a
              · subst h1
                rw [gt_up]
                by_cases h2 : b' = b
                · subst h2
                  rw [gt_up]
                  by_cases h3 : c' = c
                  · subst h3
                    exact absurd (by omega) hn
                  · rw [gt_up_ne _ _ h3]
                · rw [gt_up_ne _ _ h2]
              · rw [gt_up_ne _ _ h1]
            · by_cases h2 : b' = b
              · subst h2
                rw [gt_up]
                by_cases h3 : c' = c
                · subst h3
                  have := blt_t h64; have := blt_t g64
                  exact absurd (by omega) hn
                · rw [gt_up_ne _ _ h3]
              · rw [gt_up_ne _ _ h2]
          · cases Nat.blt d 64 <;> rfl
          · by_cases h3 : c' = c
            · subst h3
              have := blt_t h8; have := blt_t g8
              exact absurd (by omega) hn
            · rw [gt_up_ne _ _ h3]
def RED (D : Nat) (e : E) (e' : Env) : Prop := ∀ n, Nat.testBit D n = false → (gtS n).g e = e' n
theorem ptS_put {t : Nat} {p : P} (hp : ptS t = some p) (v : AV) (e : E) {k : E → Bool} (hk : p.p v e k = true) : ∃ e1, k e1 = true ∧ ∀ n, (gtS n).g e1 = if n = t then v else (gtS n).g e := by
  obtain ⟨a, b, c, ha, hb, hc, he⟩ := ptS_eq hp
  rw [he] at hk
  exact ⟨_, hk, fun n => gt_pE ha hb hc n v e⟩
theorem RED.put {D : Nat} {e : E} {e' : Env} (h : RED D e e') {d : Option Nat} {p : P} (hp : pD d = some p) (v : AV) {k : E → Bool} (hk : p.p v e k = true) : ∃ e1, k e1 = true ∧ RED D e1 (putO d v e') := by
  cases d with
  | none =>
    simp only [pD] at hp
    cases hp
    exact ⟨e, hk, h⟩
  | some t =>
    simp only [pD] at hp
    obtain ⟨e1, h1, h2⟩ := ptS_put hp v e hk
    refine ⟨e1, h1, fun n hn => ?_⟩
    rw [h2 n]
    simp only [putO]
    rw [h n hn]
theorem gA_ok {e : E} {e' : Env} (h : RE e e') (x : Arg) : (gA x).g e = arg x e' := by
  cases x with
  | t n => exact h n
  | c v => rfl
theorem gL_ok {e : E} {e' : Env} (h : RE e e') : ∀ l : List Arg, (gL l).g e = args l e'
  | [] => rfl
  | x :: l => by
    show (gA x).g e :: (gL l).g e = _
    simp only [args, List.map_cons, gA_ok h, gL_ok h l]
theorem gO_ok {e : E} {e' : Env} (h : RE e e') (x : Option Arg) : (gO x).g e = argO x e' := by
  cases x with
  | none => rfl
  | some x =>
    show some ((gA x).g e) = _
    simp only [argO, gA_ok h]
theorem gF_ok {e : E} {e' : Env} (h : RE e e') : ∀ (ps : List Part) (cs : List AV), (gF ps).f e cs = fillL e' ps cs
  | [], cs => rfl
  | p :: ps, cs => by
    simp only [gF, fillL, gA_ok h]
    cases (arg p.x e').cells with
    | none => rfl
    | some l =>
      dsimp only
      cases (Nat.beq l.length p.m && Nat.ble (p.off + p.m) cs.length) with
      | false => rfl
      | true => exact gF_ok h ps _
theorem setL_length {l cs : List AV} {k : Nat} (h : k + l.length ≤ cs.length) : (setL l cs k).length = cs.length := by
  simp [setL]; omega
theorem gT_ok {e : E} {e' : Env} (h : RE e e') {n : Nat} : ∀ (ps : List Part) (cs : List AV) (t : Tr) (k : Tr → Bool), cs.length = n → (gT n ps).f e t k = true →
    ∃ cs' t', fillL e' ps cs = some cs' ∧ cs'.length = n ∧ capT t' = capT t ∧ (n ≤ capT t → getL n t 0 = cs → getL n t' 0 = cs') ∧ k t' = true
  | [], cs, t, k, hn, hk => ⟨cs, t, rfl, hn, rfl, fun _ x => x, hk⟩
  | p :: ps, cs, t, k, hn, hk => by
    cases hb : Nat.ble (p.off + p.m) n with
    | false =>
      unfold gT at hk
      rw [hb] at hk
      cases hk
    | true =>
      have hle := Nat.le_of_ble_eq_true hb
      have step : ∀ l : List AV, (arg p.x e').cells = some l → l.length = p.m → (gT n ps).f e (pT1 l t p.off) k = true →
          ∃ cs' t', fillL e' (p :: ps) cs = some cs' ∧ cs'.length = n ∧ capT t' = capT t ∧ (n ≤ capT t → getL n t 0 = cs → getL n t' 0 = cs') ∧ k t' = true := by
        intro l hl hlen hk
        obtain ⟨cs', t', h1, h2, h3, h4, h5⟩ := gT_ok h ps (setL l cs p.off) _ k (by rw [setL_length (by omega)]; exact hn) hk
        refine ⟨cs', t', ?_, h2, h3.trans (capT_put _ _ _), fun hc hg => h4 (by rw [capT_put]; exact hc) ?_, h5⟩
        · simp only [fillL, hl]
          rw [hlen, hn, hb, Nat.beq_refl]
          exact h1
        · rw [getL_put hc (by omega), hg]
          rfl
      unfold gT at hk
      rw [hb] at hk
      cases h1 : Nat.beq p.m 1 with
      | true =>
        rw [h1] at hk
        change cellsK p.m ((gA p.x).g e) (fun l => setT t p.off (hdL l) fun t => (gT n ps).f e t k) = true at hk
        obtain ⟨l, hl, hm, hk⟩ := cellsK_some hk
        rw [setT_eq] at hk
        rw [gA_ok h] at hl
        refine step l hl hm ?_
        have hm1 := Nat.eq_of_beq_eq_true h1
        match l, hm.trans hm1 with
        | [v], _ => exact hk
      | false =>
        rw [h1] at hk
        change cellsK p.m ((gA p.x).g e) (fun l => Kq.putL l t p.off fun t => (gT n ps).f e t k) = true at hk
        obtain ⟨l, hl, hm, hk⟩ := cellsK_some hk
        rw [putL_eq] at hk
        rw [gA_ok h] at hl
        exact step l hl hm hk
def RF (F : Fn) (F' : Fns) : Prop := ∀ f l, Ref Eq (F.fn f l) (F'.fn f l)
section
variable {F : Fn} {F' : Fns} {e : E} {e' : Env}
theorem Ref.callF (hF : RF F F') (f : AV) (l : List AV) : Ref Eq (Kq.callF F f l) (Ev.callF F' f l) := by
  cases f <;> first | exact Ref.no | skip
  rename_i fn first cap
  show Ref Eq (F.fn fn (apL first (List.rec (motive := fun _ => List AV → List AV) (fun l => l) (fun v m _ l => apL l (v :: m)) cap l))) (F'.fn fn (first ++ (l ++ cap)))
  have hc : (List.rec (motive := fun _ => List AV → List AV) (fun l => l) (fun v m _ l => apL l (v :: m)) cap l : List AV) = l ++ cap := by
    cases cap with
    | nil => exact (List.append_nil l).symm
    | cons v m => exact apL_eq _ _
  rw [hc, apL_eq]
  exact hF _ _
theorem dO_st (m : Nat) (a v : Arg) : dO (.st m a v) = match Nat.beq m 1 with
    | true => ⟨fun _ e s k => st1F ((gA a).g e) ((gA v).g e) s k⟩
    | false => ⟨fun _ e s k => stnF m ((gA a).g e) ((gA v).g e) s k⟩ := rfl
theorem dO_ok (hF : RF F F') (h : RE e e') (o : PO) : Ref Eq ((dO o).v F e) (poR o F' e') := by
  cases o with
  | mv x =>
    show Ref Eq (M.pure ((gA x).g e)) (Ev.M.pure (arg x e'))
    rw [gA_ok h]; exact Ref.ret _
  | pick c a b =>
    show Ref Eq (Kq.pickF ((gA c).g e) ((gA a).g e) ((gA b).g e)) (Ev.pickF (arg c e') (arg a e') (arg b e'))
    rw [gA_ok h, gA_ok h, gA_ok h]; exact Ref.pickF _ _ _
  | new z cs => exact Ref.newF z cs
  | box z x =>
    show Ref Eq (Kq.boxF z ((gA x).g e)) (Ev.M.ofO (arg x e').cells fun l => Ev.newF z l)
    rw [gA_ok h]; exact Ref.boxF _ _
  | build cs ps =>
    show Ref Eq (M.ofO ((gF ps).f e cs) fun l => M.pure (AV.ag l)) (Ev.M.ofO (fillL e' ps cs) fun l => Ev.M.pure (AV.ag l))
    rw [gF_ok h]; exact Ref.ofO fun _ _ => Ref.ret _
  | bsl z cs len ps =>
    intro t s k hs hk
    change (gT (lnL cs) ps).f e (clT cs) (fun t1 => Kq.newT (zc z true true) (lnL cs) t1 t fun id s => k (.sl id 0 len len) s) = true at hk
    rw [lnL_eq] at hk
    obtain ⟨cs', t', h1, h2, h3, h4, h5⟩ := gT_ok h ps cs _ _ rfl hk
    have h6 : Ref Eq (M.bind (Kq.newT (zc z true true) cs.length t') fun id => M.pure (.sl id 0 len len)) (Ev.bslF z len cs') :=
      Ref.eqv (Ref.newT h2.symm fun hc => h4 (by rw [← h3]; exact hc) (toT_ok cs (by rw [← h3]; exact hc))) fun _ => Ref.ret _
    show ∃ a b t' s', Ev.M.ofO (fillL e' ps cs) (fun l => Ev.bslF z len l) s = some (b, s') ∧ _
    rw [h1]
    exact h6 t s k hs h5
  | ld1 a =>
    show Ref Eq (Kq.ldF ((gA a).g e)) (Ev.ldF (arg a e'))
    rw [gA_ok h]; exact Ref.ldF _
  | ldn m a =>
    show Ref Eq (Kq.ldnF m ((gA a).g e)) (Ev.ldnF m (arg a e'))
    rw [gA_ok h]; exact Ref.ldnF _ _
  | st m a v =>
    rw [dO_st]
    cases hb : Nat.beq m 1 with
    | true =>
      obtain rfl := Nat.eq_of_beq_eq_true hb
      show Ref Eq (Kq.st1F ((gA a).g e) ((gA v).g e)) (Ev.stF 1 (arg a e') (arg v e'))
      rw [gA_ok h, gA_ok h]; exact Ref.st1F _ _
    | false =>
      show Ref Eq (Kq.stnF m ((gA a).g e) ((gA v).g e)) (Ev.stF m (arg a e') (arg v e'))
      rw [gA_ok h, gA_ok h]; exact Ref.stnF _ _ _
  | nilc x =>
    show Ref Eq (Kq.nilF ((gA x).g e)) (Ev.nilF (arg x e'))
    rw [gA_ok h]; exact Ref.nilF _
  | bin o x y =>
    show Ref Eq ((dB o).v ((gA x).g e) ((gA y).g e)) (Ev.binF o (arg x e') (arg y e'))
    rw [gA_ok h, gA_ok h]; exact Ref.dB _ _ _
  | eq kd ng x y =>
    show Ref Eq (Kq.eqN kd ng ((gA x).g e) ((gA y).g e)) (Ev.eqN kd ng (arg x e') (arg y e'))
    rw [gA_ok h, gA_ok h]; exact Ref.eqN _ _ _ _
  | un o x =>
    have key : Ref Eq (M.ofO (unF o ((gA x).g e)) M.pure) (Ev.M.ofO (unF o (arg x e')) Ev.M.pure) := by
      rw [gA_ok h]; exact Ref.opt _
    cases o <;> first
      | exact key
      | (show Ref Eq (Kq.notF ((gA x).g e)) (Ev.M.ofO (unF .not (arg x e')) Ev.M.pure)
         rw [gA_ok h]; exact Ref.notF _)
  | cvi k x =>
    show Ref Eq (Kq.cviF k ((gA x).g e)) (Ev.cviF k (arg x e'))
    rw [gA_ok h]; exact Ref.cviF _ _
  | cvs x =>
    show Ref Eq (Kq.cvsF ((gA x).g e)) (Ev.cvsF (arg x e'))
    rw [gA_ok h]; exact Ref.cvsF _
  | cvb x =>
    show Ref Eq (Kq.cvbF ((gA x).g e)) (Ev.cvbF (arg x e'))
    rw [gA_ok h]; exact Ref.cvbF _
  | cvt x =>
    show Ref Eq (Kq.cvtF ((gA x).g e)) (Ev.cvtF (arg x e'))
    rw [gA_ok h]; exact Ref.cvtF _
  | cvm x =>
    show Ref Eq (Kq.cvmF ((gA x).g e)) (Ev.cvmF (arg x e'))
    rw [gA_ok h]; exact Ref.cvmF _
  | mkf fn a b =>
    show Ref Eq (M.pure (AV.f fn ((gL a).g e) ((gL b).g e))) (Ev.M.pure (AV.f fn (args a e') (args b e')))
    rw [gL_ok h, gL_ok h]; exact Ref.ret _
  | mks z cs l c =>
    show Ref Eq (Kq.mksF z cs ((gA l).g e) ((gA c).g e)) (Ev.mksF z cs (arg l e') (arg c e'))
    rw [gA_ok h, gA_ok h]; exact Ref.mksF _ _ _ _
  | sls w x lo hi mx =>
    show Ref Eq (M.ofO (slsF w ((gA x).g e) ((gO lo).g e) ((gO hi).g e) ((gO mx).g e)) M.pure) (Ev.M.ofO (slsF w (arg x e') (argO lo e') (argO hi e') (argO mx e')) Ev.M.pure)
    rw [gA_ok h, gO_ok h, gO_ok h, gO_ok h]; exact Ref.opt _
  | sla w n x lo hi mx =>
    show Ref Eq (M.ofO (slaF w n ((gA x).g e) ((gO lo).g e) ((gO hi).g e) ((gO mx).g e)) M.pure) (Ev.M.ofO (slaF w n (arg x e') (argO lo e') (argO hi e') (argO mx e')) Ev.M.pure)
    rw [gA_ok h, gO_ok h, gO_ok h, gO_ok h]; exact Ref.opt _
  | slt x lo hi =>
    show Ref Eq (M.ofO (sltF ((gA x).g e) ((gO lo).g e) ((gO hi).g e)) M.pure) (Ev.M.ofO (sltF (arg x e') (argO lo e') (argO hi e')) Ev.M.pure)
    rw [gA_ok h, gO_ok h, gO_ok h]; exact Ref.opt _
  | fad off x =>
    show Ref Eq (Kq.fadF off ((gA x).g e)) (Ev.fadF off (arg x e'))
    rw [gA_ok h]; exact Ref.fadF _ _
  | ixa n w x i =>
    show Ref Eq (Kq.ixaF n w ((gA x).g e) ((gA i).g e)) (Ev.ixaF n w (arg x e') (arg i e'))
    rw [gA_ok h, gA_ok h]; exact Ref.ixaF _ _ _ _
  | ixs w x i =>
    show Ref Eq (Kq.ixsF w ((gA x).g e) ((gA i).g e)) (Ev.ixsF w (arg x e') (arg i e'))
    rw [gA_ok h, gA_ok h]; exact Ref.ixsF _ _ _
  | ext x j =>
    show Ref Eq (Kq.extK (dX j) ((gA x).g e)) (Ev.extF (arg x e') j)
    rw [gA_ok h]; exact Ref.extF _ _
  | calv f l =>
    show Ref Eq (Kq.callF F ((gA f).g e) ((gL l).g e)) (Ev.callF F' (arg f e') (args l e'))
    rw [gA_ok h, gL_ok h]; exact Ref.callF hF _ _
  | app z w s x =>
    show Ref Eq (Kq.appF z w ((gA s).g e) ((gA x).g e)) (Ev.appF z w (arg s e') (arg x e'))
    rw [gA_ok h, gA_ok h]; exact Ref.appF _ _ _ _
  | apz z w cs s x =>
    show Ref Eq (Kq.apzF z w cs ((gA s).g e) ((gA x).g e)) (Ev.apzF z w cs (arg s e') (arg x e'))
    rw [gA_ok h, gA_ok h]; exact Ref.apzF _ _ _ _ _
  | cpy w d x =>
    show Ref Eq (Kq.cpyF w ((gA d).g e) ((gA x).g e)) (Ev.cpyF w (arg d e') (arg x e'))
    rw [gA_ok h, gA_ok h]; exact Ref.cpyF _ _ _
  | clr cs d =>
    show Ref Eq (Kq.clrF cs ((gA d).g e)) (Ev.clrF cs (arg d e'))
    rw [gA_ok h]; exact Ref.clrF _ _
  | len x =>
    show Ref Eq (Kq.lenK ((gA x).g e)) (Ev.M.ofO (lenF (arg x e')) Ev.M.pure)
    rw [gA_ok h]; exact Ref.lenK _
  | lns x =>
    show Ref Eq (M.ofO (lnsF ((gA x).g e)) M.pure) (Ev.M.ofO (lnsF (arg x e')) Ev.M.pure)
    rw [gA_ok h]; exact Ref.opt _
  | cap x =>
    show Ref Eq (M.ofO (capF ((gA x).g e)) M.pure) (Ev.M.ofO (capF (arg x e')) Ev.M.pure)
    rw [gA_ok h]; exact Ref.opt _
  | mm mx x l =>
    show Ref Eq (M.ofO (mmF mx ((gA x).g e) ((gL l).g e)) M.pure) (Ev.M.ofO (mmF mx (arg x e') (args l e')) Ev.M.pure)
    rw [gA_ok h, gL_ok h]; exact Ref.opt _
  | mkm => exact Ref.mkmF
  | lkm q z o x k =>
    show Ref Eq (fun s c => fo2 ((gA k).g e) fun k => Kq.lkF q z o ((gA x).g e) k s c) (Ev.lkF q z o (arg x e') (arg k e'))
    simp only [fo2_eq, gA_ok h]; exact Ref.lkF _ _ _ _ _
  | mup q x k v =>
    show Ref Eq (fun s c => fo2 ((gA k).g e) fun k => fo2 ((gA v).g e) fun v => Kq.mupF q ((gA x).g e) k v s c) (Ev.mupF q (arg x e') (arg k e') (arg v e'))
    simp only [fo2_eq, gA_ok h]; exact Ref.mupF _ _ _ _
  | del q x k =>
    show Ref Eq (fun s c => fo2 ((gA k).g e) fun k => Kq.delF q ((gA x).g e) k s c) (Ev.delF q (arg x e') (arg k e'))
    simp only [fo2_eq, gA_ok h]; exact Ref.delF _ _ _
  | lnm x =>
    show Ref Eq (Kq.lnmF ((gA x).g e)) (Ev.lnmF (arg x e'))
    rw [gA_ok h]; exact Ref.lnmF _
  | men q z x k =>
    show Ref Eq (fun s c => fo2 ((gA k).g e) fun k => Kq.menF q z ((gA x).g e) k s c) (Ev.menF q z (arg x e') (arg k e'))
    simp only [fo2_eq, gA_ok h]; exact Ref.menF _ _ _ _
  | mes x b v =>
    show Ref Eq (fun s c => fo2 ((gA v).g e) fun v => Kq.mesF ((gA x).g e) ((gA b).g e) v s c) (Ev.mesF (arg x e') (arg b e') (arg v e'))
    simp only [fo2_eq, gA_ok h]; exact Ref.mesF _ _ _
  | fld off m ag x =>
    show Ref Eq (Kq.fldF off m ag ((gA x).g e)) (Ev.fldF off m ag (arg x e'))
    rw [gA_ok h]; exact Ref.fldF _ _ _ _
  | idx n w ag x i =>
    show Ref Eq (Kq.idxF n w ag ((gA x).g e) ((gA i).g e)) (Ev.idxF n w ag (arg x e') (arg i e'))
    rw [gA_ok h, gA_ok h]; exact Ref.idxF _ _ _ _ _
  | ixt x i =>
    show Ref Eq (Kq.ixtF ((gA x).g e) ((gA i).g e)) (Ev.ixtF (arg x e') (arg i e'))
    rw [gA_ok h, gA_ok h]; exact Ref.ixtF _ _
  | sap n x =>
    show Ref Eq (Kq.sapF n ((gA x).g e)) (Ev.sapF n (arg x e'))
    rw [gA_ok h]; exact Ref.sapF _ _
  | bad => exact Ref.no
end
/- the operations once more, over slots and a stack -/
def R2E (A : Nat → G2) (e : E) (yy : List AV) (e' : Env) : Prop := ∀ n, (A n).g e yy = e' n
section
variable {A : Nat → G2} {e : E} {yy : List AV} {e' : Env}
theorem gA2_ok (h : R2E A e yy e') (x : Arg) : (gA2 A x).g e yy = arg x e' := by
  cases x with
  | t n => exact h n
  | c v => rfl
theorem gL2_ok (h : R2E A e yy e') : ∀ l : List Arg, (gL2 A l).g e yy = args l e'
  | [] => rfl
  | x :: l => by
    show (gA2 A x).g e yy :: (gL2 A l).g e yy = _
    simp only [args, List.map_cons, gA2_ok h, gL2_ok h l]
theorem gO2_ok (h : R2E A e yy e') (x : Option Arg) : (gO2 A x).g e yy = argO x e' := by
  cases x with
  | none => rfl
  | some x =>
    show some ((gA2 A x).g e yy) = _
    simp only [argO, gA2_ok h]
theorem gF2_ok (h : R2E A e yy e') : ∀ (ps : List Part) (cs : List AV), (gF2 A ps).f e yy cs = fillL e' ps cs
  | [], cs => rfl
  | p :: ps, cs => by
    simp only [gF2, fillL, gA2_ok h]
    cases (arg p.x e').cells with
    | none => rfl
    | some l =>
      dsimp only
      cases (Nat.beq l.length p.m && Nat.ble (p.off + p.m) cs.length) with
      | false => rfl
      | true => exact gF2_ok h ps _
theorem gT2_ok (h : R2E A e yy e') {n : Nat} : ∀ (ps : List Part) (cs : List AV) (t : Tr) (k : Tr → Bool), cs.length = n → (gT2 A n ps).f e yy t k = true →
    ∃ cs' t', fillL e' ps cs = some cs' ∧ cs'.length = n ∧ capT t' = capT t ∧ (n ≤ capT t → getL n t 0 = cs → getL n t' 0 = cs') ∧ k t' = true
  | [], cs, t, k, hn, hk => ⟨cs, t, rfl, hn, rfl, fun _ x => x, hk⟩
  | p :: ps, cs, t, k, hn, hk => by
    cases hb : Nat.ble (p.off + p.m) n with
    | false =>
      unfold gT2 at hk
      rw [hb] at hk
      cases hk
    | true =>
      have hle := Nat.le_of_ble_eq_true hb
      have step : ∀ l : List AV, (arg p.x e').cells = some l → l.length = p.m → (gT2 A n ps).f e yy (pT1 l t p.off) k = true →
          ∃ cs' t', fillL e' (p :: ps) cs = some cs' ∧ cs'.length = n ∧ capT t' = capT t ∧ (n ≤ capT t → getL n t 0 = cs → getL n t' 0 = cs') ∧ k t' = true := by
        intro l hl hlen hk
        obtain ⟨cs', t', h1, h2, h3, h4, h5⟩ := gT2_ok h ps (setL l cs p.off) _ k (by rw [setL_length (by omega)]; exact hn) hk
        refine ⟨cs', t', ?_, h2, h3.trans (capT_put _ _ _), fun hc hg => h4 (by rw [capT_put]; exact hc) ?_, h5⟩
        · simp only [fillL, hl]
          rw [hlen, hn, hb, Nat.beq_refl]
          exact h1
        · rw [getL_put hc (by omega), hg]
          rfl
      unfold gT2 at hk
      rw [hb] at hk
      cases h1 : Nat.beq p.m 1 with
      | true =>
        rw [h1] at hk
        change cellsK p.m ((gA2 A p.x).g e yy) (fun l => setT t p.off (hdL l) fun t => (gT2 A n ps).f e yy t k) = true at hk
        obtain ⟨l, hl, hm, hk⟩ := cellsK_some hk
        rw [setT_eq] at hk
        rw [gA2_ok h] at hl
        refine step l hl hm ?_
        have hm1 := Nat.eq_of_beq_eq_true h1
        match l, hm.trans hm1 with
        | [v], _ => exact hk
      | false =>
        rw [h1] at hk
        change cellsK p.m ((gA2 A p.x).g e yy) (fun l => Kq.putL l t p.off fun t => (gT2 A n ps).f e yy t k) = true at hk
        obtain ⟨l, hl, hm, hk⟩ := cellsK_some hk
        rw [putL_eq] at hk
        rw [gA2_ok h] at hl
        exact step l hl hm hk
variable {F : Fn} {F' : Fns}
theorem dO2_st (A : Nat → G2) (m : Nat) (a v : Arg) : dO2 A (.st m a v) = match Nat.beq m 1 with
    | true => ⟨fun _ e yy s k => st1F ((gA2 A a).g e yy) ((gA2 A v).g e yy) s k⟩
    | false => ⟨fun _ e yy s k => stnF m ((gA2 A a).g e yy) ((gA2 A v).g e yy) s k⟩ := rfl
theorem dO2_ok (hF : RF F F') (h : R2E A e yy e') (o : PO) : Ref Eq ((dO2 A o).v F e yy) (poR o F' e') := by
  cases o with
  | mv x =>
    show Ref Eq (M.pure ((gA2 A x).g e yy)) (Ev.M.pure (arg x e'))
    rw [gA2_ok h]; exact Ref.ret _
  | pick c a b =>
    show Ref Eq (Kq.pickF ((gA2 A c).g e yy) ((gA2 A a).g e yy) ((gA2 A b).g e yy)) (Ev.pickF (arg c e') (arg a e') (arg b e'))
    rw [gA2_ok h, gA2_ok h, gA2_ok h]; exact Ref.pickF _ _ _
  | new z cs => exact Ref.newF z cs
  | box z x =>
    show Ref Eq (Kq.boxF z ((gA2 A x).g e yy)) (Ev.M.ofO (arg x e').cells fun l => Ev.newF z l)
    rw [gA2_ok h]; exact Ref.boxF _ _
  | build cs ps =>
    show Ref Eq (M.ofO ((gF2 A ps).f e yy cs) fun l => M.pure (AV.ag l)) (Ev.M.ofO (fillL e' ps cs) fun l => Ev.M.pure (AV.ag l))
    rw [gF2_ok h]; exact Ref.ofO fun _ _ => Ref.ret _
  | bsl z cs len ps =>
    intro t s k hs hk
    change (gT2 A (lnL cs) ps).f e yy (clT cs) (fun t1 => Kq.newT (zc z true true) (lnL cs) t1 t fun id s => k (.sl id 0 len len) s) = true at hk
    rw [lnL_eq] at hk
    obtain ⟨cs', t', h1, h2, h3, h4, h5⟩ := gT2_ok h ps cs _ _ rfl hk
    have h6 : Ref Eq (M.bind (Kq.newT (zc z true true) cs.length t') fun id => M.pure (.sl id 0 len len)) (Ev.bslF z len cs') :=
      Ref.eqv (Ref.newT h2.symm fun hc => h4 (by rw [← h3]; exact hc) (toT_ok cs (by rw [← h3]; exact hc))) fun _ => Ref.ret _
    show ∃ a b t' s', Ev.M.ofO (fillL e' ps cs) (fun l => Ev.bslF z len l) s = some (b, s') ∧ _
    rw [h1]
    exact h6 t s k hs h5
  | ld1 a =>
    show Ref Eq (Kq.ldF ((gA2 A a).g e yy)) (Ev.ldF (arg a e'))
    rw [gA2_ok h]; exact Ref.ldF _
  | ldn m a =>
    show Ref Eq (Kq.ldnF m ((gA2 A a).g e yy)) (Ev.ldnF m (arg a e'))
    rw [gA2_ok h]; exact Ref.ldnF _ _
  | st m a v =>
    rw [dO2_st]
    cases hb : Nat.beq m 1 with
    | true =>
      obtain rfl := Nat.eq_of_beq_eq_true hb
      show Ref Eq (Kq.st1F ((gA2 A a).g e yy) ((gA2 A v).g e yy)) (Ev.stF 1 (arg a e') (arg v e'))
      rw [gA2_ok h, gA2_ok h]; exact Ref.st1F _ _
    | false =>
      show Ref Eq (Kq.stnF m ((gA2 A a).g e yy) ((gA2 A v).g e yy)) (Ev.stF m (arg a e') (arg v e'))
      rw [gA2_ok h, gA2_ok h]; exact Ref.stnF _ _ _
  | nilc x =>
    show Ref Eq (Kq.nilF ((gA2 A x).g e yy)) (Ev.nilF (arg x e'))
    rw [gA2_ok h]; exact Ref.nilF _
  | bin o x y =>
    show Ref Eq ((dB o).v ((gA2 A x).g e yy) ((gA2 A y).g e yy)) (Ev.binF o (arg x e') (arg y e'))
    rw [gA2_ok h, gA2_ok h]; exact Ref.dB _ _ _
  | eq kd ng x y =>
    show Ref Eq (Kq.eqN kd ng ((gA2 A x).g e yy) ((gA2 A y).g e yy)) (Ev.eqN kd ng (arg x e') (arg y e'))
    rw [gA2_ok h, gA2_ok h]; exact Ref.eqN _ _ _ _
  | un o x =>
    have key : Ref Eq (M.ofO (unF o ((gA2 A x).g e yy)) M.pure) (Ev.M.ofO (unF o (arg x e')) Ev.M.pure) := by
      rw [gA2_ok h]; exact Ref.opt _
    cases o <;> first
      | exact key
      | (show Ref Eq (Kq.notF ((gA2 A x).g e yy)) (Ev.M.ofO (unF .not (arg x e')) Ev.M.pure)
         rw [gA2_ok h]; exact Ref.notF _)
  | cvi k x =>
    show Ref Eq (Kq.cviF k ((gA2 A x).g e yy)) (Ev.cviF k (arg x e'))
    rw [gA2_ok h]; exact Ref.cviF _ _
  | cvs x =>
    show Ref Eq (Kq.cvsF ((gA2 A x).g e yy)) (Ev.cvsF (arg x e'))
    rw [gA2_ok h]; exact Ref.cvsF _
  | cvb x =>
    show Ref Eq (Kq.cvbF ((gA2 A x).g e yy)) (Ev.cvbF (arg x e'))
    rw [gA2_ok h]; exact Ref.cvbF _
  | cvt x =>
    show Ref Eq (Kq.cvtF ((gA2 A x).g e yy)) (Ev.cvtF (arg x e'))
    rw [gA2_ok h]; exact Ref.cvtF _
  | cvm x =>
    show Ref Eq (Kq.cvmF ((gA2 A x).g e yy)) (Ev.cvmF (arg x e'))
    rw [gA2_ok h]; exact Ref.cvmF _
  | mkf fn a b =>
    show Ref Eq (M.pure (AV.f fn ((gL2 A a).g e yy) ((gL2 A b).g e yy))) (Ev.M.pure (AV.f fn (args a e') (args b e')))
    rw [gL2_ok h, gL2_ok h]; exact Ref.ret _
  | mks z cs l c =>
    show Ref Eq (Kq.mksF z cs ((gA2 A l).g e yy) ((gA2 A c).g e yy)) (Ev.mksF z cs (arg l e') (arg c e'))
    rw [gA2_ok h, gA2_ok h]; exact Ref.mksF _ _ _ _
  | sls w x lo hi mx =>
    show Ref Eq (M.ofO (slsF w ((gA2 A x).g e yy) ((gO2 A lo).g e yy) ((gO2 A hi).g e yy) ((gO2 A mx).g e yy)) M.pure) (Ev.M.ofO (slsF w (arg x e') (argO lo e') (argO hi e') (argO mx e')) Ev.M.pure)
    rw [gA2_ok h, gO2_ok h, gO2_ok h, gO2_ok h]; exact Ref.opt _
  | sla w n x lo hi mx =>
    show Ref Eq (M.ofO (slaF w n ((gA2 A x).g e yy) ((gO2 A lo).g e yy) ((gO2 A hi).g e yy) ((gO2 A mx).g e yy)) M.pure) (Ev.M.ofO (slaF w n (arg x e') (argO lo e') (argO hi e') (argO mx e')) Ev.M.pure)
    rw [gA2_ok h, gO2_ok h, gO2_ok h, gO2_ok h]; exact Ref.opt _
  | slt x lo hi =>
    show Ref Eq (M.ofO (sltF ((gA2 A x).g e yy) ((gO2 A lo).g e yy) ((gO2 A hi).g e yy)) M.pure) (Ev.M.ofO (sltF (arg x e') (argO lo e') (argO hi e')) Ev.M.pure)
    rw [gA2_ok h, gO2_ok h, gO2_ok h]; exact Ref.opt _
  | fad off x =>
    show Ref Eq (Kq.fadF off ((gA2 A x).g e yy)) (Ev.fadF off (arg x e'))
    rw [gA2_ok h]; exact Ref.fadF _ _
  | ixa n w x i =>
    show Ref Eq (Kq.ixaF n w ((gA2 A x).g e yy) ((gA2 A i).g e yy)) (Ev.ixaF n w (arg x e') (arg i e'))
    rw [gA2_ok h, gA2_ok h]; exact Ref.ixaF _ _ _ _
  | ixs w x i =>
    show Ref Eq (Kq.ixsF w ((gA2 A x).g e yy) ((gA2 A i).g e yy)) (Ev.ixsF w (arg x e') (arg i e'))
    rw [gA2_ok h, gA2_ok h]; exact Ref.ixsF _ _ _
  | ext x j =>
    show Ref Eq (Kq.extK (dX j) ((gA2 A x).g e yy)) (Ev.extF (arg x e') j)
    rw [gA2_ok h]; exact Ref.extF _ _
  | calv f l =>
    show Ref Eq (Kq.callF F ((gA2 A f).g e yy) ((gL2 A l).g e yy)) (Ev.callF F' (arg f e') (args l e'))
    rw [gA2_ok h, gL2_ok h]; exact Ref.callF hF _ _
  | app z w s x =>
    show Ref Eq (Kq.appF z w ((gA2 A s).g e yy) ((gA2 A x).g e yy)) (Ev.appF z w (arg s e') (arg x e'))
    rw [gA2_ok h, gA2_ok h]; exact Ref.appF _ _ _ _
  | apz z w cs s x =>
    show Ref Eq (Kq.apzF z w cs ((gA2 A s).g e yy) ((gA2 A x).g e yy)) (Ev.apzF z w cs (arg s e') (arg x e'))
    rw [gA2_ok h, gA2_ok h]; exact Ref.apzF _ _ _ _ _
  | cpy w d x =>
    show Ref Eq (Kq.cpyF w ((gA2 A d).g e yy) ((gA2 A x).g e yy)) (Ev.cpyF w (arg d e') (arg x e'))
    rw [gA2_ok h, gA2_ok h]; exact Ref.cpyF _ _ _
  | clr cs d =>
    show Ref Eq (Kq.clrF cs ((gA2 A d).g e yy)) (Ev.clrF cs (arg d e'))
    rw [gA2_ok h]; exact Ref.clrF _ _
  | len x =>
    show Ref Eq (Kq.lenK ((gA2 A x).g e yy)) (Ev.M.ofO (lenF (arg x e')) Ev.M.pure)
    rw [gA2_ok h]; exact Ref.lenK _
  | lns x =>
    show Ref Eq (M.ofO (lnsF ((gA2 A x).g e yy)) M.pure) (Ev.M.ofO (lnsF (arg x e')) Ev.M.pure)
    rw [gA2_ok h]; exact Ref.opt _
  | cap x =>
    show Ref Eq (M.ofO (capF ((gA2 A x).g e yy)) M.pure) (Ev.M.ofO (capF (arg x e')) Ev.M.pure)
    rw [gA2_ok h]; exact Ref.opt _
  | mm mx x l =>
    show Ref Eq (M.ofO (mmF mx ((gA2 A x).g e yy) ((gL2 A l).g e yy)) M.pure) (Ev.M.ofO (mmF mx (arg x e') (args l e')) Ev.M.pure)
    rw [gA2_ok h, gL2_ok h]; exact Ref.opt _
  | mkm => exact Ref.mkmF
  | lkm q z o x k =>
    show Ref Eq (fun s c => fo2 ((gA2 A k).g e yy) fun k => Kq.lkF q z o ((gA2 A x).g e yy) k s c) (Ev.lkF q z o (arg x e') (arg k e'))
    simp only [fo2_eq, gA2_ok h]; exact Ref.lkF _ _ _ _ _
  | mup q x k v =>
    show Ref Eq (fun s c => fo2 ((gA2 A k).g e yy) fun k => fo2 ((gA2 A v).g e yy) fun v => Kq.mupF q ((gA2 A x).g e yy) k v s c) (Ev.mupF q (arg x e') (arg k e') (arg v e'))
    simp only [fo2_eq, gA2_ok h]; exact Ref.mupF _ _ _ _
  | del q x k =>
    show Ref Eq (fun s c => fo2 ((gA2 A k).g e yy) fun k => Kq.delF q ((gA2 A x).g e yy) k s c) (Ev.delF q (arg x e') (arg k e'))
    simp only [fo2_eq, gA2_ok h]; exact Ref.delF _ _ _
  | lnm x =>
    show Ref Eq (Kq.lnmF ((gA2 A x).g e yy)) (Ev.lnmF (arg x e'))
    rw [gA2_ok h]; exact Ref.lnmF _
  | men q z x k =>
    show Ref Eq (fun s c => fo2 ((gA2 A k).g e yy) fun k => Kq.menF q z ((gA2 A x).g e yy) k s c) (Ev.menF q z (arg x e') (arg k e'))
    simp only [fo2_eq, gA2_ok h]; exact Ref.menF _ _ _ _
  | mes x b v =>
    show Ref Eq (fun s c => fo2 ((gA2 A v).g e yy) fun v => Kq.mesF ((gA2 A x).g e yy) ((gA2 A b).g e yy) v s c) (Ev.mesF (arg x e') (arg b e') (arg v e'))
    simp only [fo2_eq, gA2_ok h]; exact Ref.mesF _ _ _
  | fld off m ag x =>
    show Ref Eq (Kq.fldF off m ag ((gA2 A x).g e yy)) (Ev.fldF off m ag (arg x e'))
    rw [gA2_ok h]; exact Ref.fldF _ _ _ _
  | idx n w ag x i =>
    show Ref Eq (Kq.idxF n w ag ((gA2 A x).g e yy) ((gA2 A i).g e yy)) (Ev.idxF n w ag (arg x e') (arg i e'))
    rw [gA2_ok h, gA2_ok h]; exact Ref.idxF _ _ _ _ _
  | ixt x i =>
    show Ref Eq (Kq.ixtF ((gA2 A x).g e yy) ((gA2 A i).g e yy)) (Ev.ixtF (arg x e') (arg i e'))
    rw [gA2_ok h, gA2_ok h]; exact Ref.ixtF _ _
  | sap n x =>
    show Ref Eq (Kq.sapF n ((gA2 A x).g e yy)) (Ev.sapF n (arg x e'))
    rw [gA2_ok h]; exact Ref.sapF _ _
  | bad => exact Ref.no
end
end Kq
end Ev
end Go.Proofs.YthknbcbkibbncaaGreat

/- DERIVED. The quick evaluator's regions, code and functions, against the plain one's. -/
set_option linter.unusedVariables false
namespace Go.Proofs.YthknbcbkibbncaaGreat
namespace Ev
namespace Kq
theorem clr_mem {D : Nat} {l : List Nat} (h : clr D l = true) {n : Nat} (hn : n ∈ l) : Nat.testBit D n = false := by
  unfold clr at h
  rw [List.all_eq_true] at h
  simpa using h n hn
theorem clr_sub {D : Nat} {l m : List Nat} (h : clr D l = true) (hs : ∀ n, n ∈ m → n ∈ l) : clr D m = true := by
  unfold clr
  rw [List.all_eq_true]
  intro n hn
  simpa using clr_mem h (hs n hn)
theorem gA_red {D : Nat} {e : E} {e' : Env} (h : RED D e e') {x : Arg} (hc : clr D (tmpsA x) = true) : (gA x).g e = arg x e' := by
  cases x with
  | t n => exact h n (clr_mem hc (by simp [tmpsA]))
  | c v => rfl
section
variable {D : Nat} {F : Fn} {F' : Fns} {e : E} {e' : Env}
theorem dO_red (hF : RF F F') (h : RED D e e') {o : PO} (hc : ∀ n ∈ tmpsP o, Nat.testBit D n = false) : Ref Eq ((dO o).v F e) (poR o F' e') := by
  have h1 := dO_ok hF (e' := fun n => (gtS n).g e) (fun _ => rfl) o
  rw [poR_congr (e' := e') (fun t ht => h t (hc t ht))] at h1
  exact h1
theorem dP_ok (hF : RF F F') (h : RED D e e') {o : PO} (d : Option Nat) (hc : ∀ n ∈ tmpsP o, Nat.testBit D n = false) : Ref (RED D) ((dP o d).v F e) (Ev.M.bind (poR o F' e') fun v => Ev.M.pure (putO d v e')) := by
  unfold dP
  cases hp : pD d with
  | none => exact Ref.no
  | some p =>
    intro t s k hs hk
    have hk' : (dO o).v F e t (fun v s => p.p v e fun e => k e s) = true := by cases o <;> exact hk
    obtain ⟨v, v', t1, s1, h1, rfl, h3, h4⟩ := dO_red hF h hc t s _ hs hk'
    obtain ⟨e1, h5, h6⟩ := h.put hp v h4
    exact ⟨e1, _, t1, s1, by simp only [Ev.M.bind, h1]; rfl, h6, h3, h5⟩
theorem dU_ok (h : RED D e e') (d : Option Nat) : Ref (RED D) ((dU d).v F e) (Ev.M.bind (Ev.M.pure und) fun v => Ev.M.pure (putO d v e')) := by
  unfold dU
  cases hp : pD d with
  | none => exact Ref.no
  | some p =>
    intro t s k hs hk
    obtain ⟨e1, h5, h6⟩ := h.put hp und (k := fun e => k e t) hk
    exact ⟨e1, _, t, s, rfl, h6, hs, h5⟩
theorem dS_ok (hF : RF F F') (h : RED D e e') {o : PS} (hc : ∀ n ∈ readsS o, Nat.testBit D n = false) : Ref (RED D) ((dS o).v F e) (psR o F' e') := by
  obtain ⟨g, d, o⟩ := o
  cases g with
  | none => exact dP_ok hF h d hc
  | some g =>
    obtain ⟨n, want⟩ := g
    have hn := h n (hc n (by simp [readsS]))
    have hc' : ∀ n ∈ tmpsP o, Nat.testBit D n = false := fun n hn => hc n (by simp [readsS, hn])
    cases want
    · show Ref (RED D) (sel ((gtS n).g e) (dU d) (dP o d) (dU d) F e) _
      unfold psR psV
      dsimp only [wanted]
      rw [hn]
      cases e' n <;> first | exact dU_ok h d | skip
      rename_i t
      cases t
      · exact dP_ok hF h d hc'
      · exact dU_ok h d
    · show Ref (RED D) (sel ((gtS n).g e) (dP o d) (dU d) (dU d) F e) _
      unfold psR psV
      dsimp only [wanted]
      rw [hn]
      cases e' n <;> first | exact dU_ok h d | skip
      rename_i t
      cases t
      · exact dU_ok h d
      · exact dP_ok hF h d hc'
end

/- a region: slots that are kept on the stack alone -/
noncomputable def valL (v : LV) (e : E) (y : List AV) (k : Nat) : AV := match v with
  | .st j => y[k - 1 - j]?.getD und
  | .en m => (gtS m).g e
  | .co v => v
structure RG (D W : Nat) (c : List Sg) (k : Nat) (e : E) (y : List AV) (e' : Env) : Prop where
  red : RED D e e'
  len : y.length = k
  inD : ∀ n v, findS c n = some v → Nat.testBit D n = true
  ok : ∀ n v, findS c n = some v → valL v e y k = e' n
  st : ∀ n j, findS c n = some (.st j) → j < k
  en : ∀ n m, findS c n = some (.en m) → Nat.testBit W m = false
theorem stk_ok : ∀ (i : Nat) (y : List AV), (stk i).h y = y[i]?.getD und
  | 0, [] => rfl
  | 0, _ :: _ => rfl
  | i + 1, [] => by
    show (stk i).h [] = _
    rw [stk_ok i []]
    simp
  | i + 1, _ :: y => by
    show (stk i).h y = _
    rw [stk_ok i y]
    simp
section
variable {D W k : Nat} {c : List Sg} {e : E} {y : List AV} {e' : Env}
theorem acS_eq (n : Nat) : (acS c k n).g e y = match findS c n with
    | none => (gtS n).g e
    | some v => valL v e y k := by
  unfold acS
  cases hf : findS c n with
  | none => rfl
  | some v =>
    cases v with
    | st j => exact stk_ok _ _
    | en m => rfl
    | co v => rfl
theorem RG.val (h : RG D W c k e y e') {n : Nat} (ho : okS D c n = true) : (acS c k n).g e y = e' n := by
  rw [acS_eq]
  unfold okS at ho
  cases hf : findS c n with
  | none =>
    cases hD : Nat.testBit D n with
    | false => exact h.red n hD
    | true => rw [hD, hf] at ho; cases ho
  | some v => exact h.ok n v hf
theorem findS_cons (x : Sg) (n : Nat) : findS (x :: c) n = if x.n = n then some x.v else findS c n := by
  show (match Nat.beq x.n n with | true => some x.v | false => findS c n) = _
  cases hb : Nat.beq x.n n with
  | true => rw [if_pos (Nat.eq_of_beq_eq_true hb)]
  | false => rw [if_neg (fun e => by rw [e, Nat.beq_refl] at hb; cases hb)]
theorem RG.push (h : RG D W c k e y e') {t : Nat} (ht : Nat.testBit D t = true) (v : AV) : RG D W (⟨t, .st k⟩ :: c) (k + 1) e (v :: y) (putO (some t) v e') := by
  refine ⟨fun n hn => ?_, by simp [h.len], fun n u hu => ?_, fun n u hu => ?_, fun n j hu => ?_, fun n m hu => ?_⟩
  · have : n ≠ t := fun x => by rw [x, ht] at hn; cases hn
    simp only [putO, if_neg this]
    exact h.red n hn
  all_goals rw [findS_cons] at hu
  · by_cases hn : t = n
    · rw [← hn]; exact ht
    · rw [if_neg hn] at hu; exact h.inD n u hu
  · by_cases hn : t = n
    · rw [if_pos hn] at hu
      cases hu
      simp only [putO, if_pos hn.symm, valL]
      rw [show k + 1 - 1 - k = 0 by omega]
      rfl
    · rw [if_neg hn] at hu
      have hv := h.ok n u hu
      simp only [putO, if_neg (fun e => hn e.symm : ¬ n = t)]
      rw [← hv]
      cases u with
      | st j =>
        have := h.st n j hu
        simp only [valL]
        rw [show k + 1 - 1 - j = (k - 1 - j) + 1 by omega, List.getElem?_cons_succ]
      | en m => rfl
      | co v => rfl
  · by_cases hn : t = n
    · rw [if_pos hn] at hu; cases hu; omega
    · rw [if_neg hn] at hu; have := h.st n j hu; omega
  · by_cases hn : t = n
    · rw [if_pos hn] at hu; cases hu
    · rw [if_neg hn] at hu; exact h.en n m hu
theorem RG.write (h : RG D W c k e y e') {t : Nat} (ht : Nat.testBit D t = false) (hw : Nat.testBit W t = true) {v : AV} {e1 : E} (he : ∀ n, (gtS n).g e1 = if n = t then v else (gtS n).g e) : RG D W c k e1 y (putO (some t) v e') := by
  refine ⟨fun n hn => ?_, h.len, h.inD, fun n u hu => ?_, h.st, h.en⟩
  · rw [he n]
    simp only [putO]
    rw [h.red n hn]
  · have hD := h.inD n u hu
    have hn : n ≠ t := fun x => by rw [x, ht] at hD; cases hD
    simp only [putO, if_neg hn]
    rw [← h.ok n u hu]
    cases u with
    | st j => rfl
    | en m =>
      have hm := h.en n m hu
      have : m ≠ t := fun x => by rw [x, hw] at hm; cases hm
      simp only [valL]
      rw [he m, if_neg this]
    | co v => rfl
theorem RG.alias (h : RG D W c k e y e') {t : Nat} (ht : Nat.testBit D t = true) {x : Arg} (hx : ∀ n ∈ tmpsA x, okS D c n = true) {u : LV} (hu : alS W c x = some u) : RG D W (⟨t, u⟩ :: c) k e y (putO (some t) (arg x e') e') := by
  have key : valL u e y k = arg x e' ∧ (∀ j, u = .st j → j < k) ∧ (∀ m, u = .en m → Nat.testBit W m = false) := by
    cases x with
    | c v =>
      simp only [alS] at hu
      cases hu
      exact ⟨rfl, by simp, by simp⟩
    | t n =>
      simp only [alS] at hu
      cases hf : findS c n with
      | some w =>
        rw [hf] at hu
        cases hu
        exact ⟨h.ok n u hf, fun j e => h.st n j (by rw [hf, e]), fun m e => h.en n m (by rw [hf, e])⟩
      | none =>
        rw [hf] at hu
        dsimp only at hu
        cases hw : Nat.testBit W n with
        | true => rw [hw] at hu; cases hu
        | false =>
          rw [hw] at hu
          cases hu
          have hok := hx n (by simp [tmpsA])
          unfold okS at hok
          cases hD : Nat.testBit D n with
          | true => rw [hD, hf] at hok; cases hok
          | false => exact ⟨h.red n hD, by simp, fun m e => by cases e; exact hw⟩
  refine ⟨fun n hn => ?_, h.len, fun n w hw => ?_, fun n w hw => ?_, fun n j hw => ?_, fun n m hw => ?_⟩
  · have : n ≠ t := fun x => by rw [x, ht] at hn; cases hn
    simp only [putO, if_neg this]
    exact h.red n hn
  all_goals rw [findS_cons] at hw
  · by_cases hn : t = n
    · rw [← hn]; exact ht
    · rw [if_neg hn] at hw; exact h.inD n w hw
  · by_cases hn : t = n
    · rw [if_pos hn] at hw
      cases hw
      simp only [putO, if_pos hn.symm]
      exact key.1
    · rw [if_neg hn] at hw
      simp only [putO, if_neg (fun e => hn e.symm : ¬ n = t)]
      exact h.ok n w hw
  · by_cases hn : t = n
    · rw [if_pos hn] at hw; cases hw; exact key.2.1 j rfl
    · rw [if_neg hn] at hw; exact h.st n j hw
  · by_cases hn : t = n
    · rw [if_pos hn] at hw; cases hw; exact key.2.2 m rfl
    · rw [if_neg hn] at hw; exact h.en n m hw
theorem onto_ok {F : Fn} {t : Nat} {f : Fn → E → List AV → M AV} {m : Ev.M AV} (hf : Ref Eq (f F e y) m) (h : RG D W c k e y e') {u : St} {s : S} {q : E → List AV → St → Bool} (hs : RS u s) (hk : (onto D W t f).v F e y u q = true) :
    ∃ e1 y1 t1 v s1, m s = some (v, s1) ∧ RS t1 s1 ∧ q e1 y1 t1 = true ∧
      RG D W (if Nat.testBit D t = true then ⟨t, .st k⟩ :: c else c) (if Nat.testBit D t = true then k + 1 else k) e1 y1 (putO (some t) v e') := by
  unfold onto at hk
  cases hD : Nat.testBit D t with
  | true =>
    rw [hD] at hk
    obtain ⟨v, v', t1, s1, h1, rfl, h3, h4⟩ := hf u s _ hs hk
    exact ⟨e, v :: y, t1, v, s1, h1, h3, h4, by rw [if_pos rfl, if_pos rfl]; exact h.push hD v⟩
  | false =>
    rw [hD] at hk
    dsimp only at hk
    cases hW : Nat.testBit W t with
    | false => rw [hW] at hk; cases hk
    | true =>
      rw [hW] at hk
      dsimp only at hk
      cases hp : ptS t with
      | none => rw [hp] at hk; cases hk
      | some p =>
        rw [hp] at hk
        have hk' : f F e y u (fun v s => p.p v e fun e => q e y s) = true := hk
        obtain ⟨v, v', t1, s1, h1, rfl, h3, h4⟩ := hf u s _ hs hk'
        obtain ⟨e1, h5, h6⟩ := ptS_put hp v e h4
        exact ⟨e1, y, t1, v, s1, h1, h3, h5, by rw [if_neg (by simp), if_neg (by simp)]; exact h.write hD hW h6⟩
theorem dO2_val {F : Fn} {F' : Fns} (hF : RF F F') (h : RG D W c k e y e') {o : PO} (ho : (tmpsP o).all (okS D c) = true) : Ref Eq ((dO2 (acS c k) o).v F e y) (poR o F' e') := by
  have h1 := dO2_ok (A := acS c k) (yy := y) hF (e' := fun n => (acS c k n).g e y) (fun _ => rfl) o
  rw [poR_congr (e' := e') (fun t ht => h.val (List.all_eq_true.1 ho t ht))] at h1
  exact h1
theorem dOne_ok {F : Fn} {F' : Fns} (hF : RF F F') (al : Bool) (h : RG D W c k e y e') {o : PS} (ho : (tmpsP o.o).all (okS D c) = true) {u : St} {s : S} {q : E → List AV → St → Bool} (hs : RS u s) (hk : (dOne al D W c k o).v F e y u q = true) :
    ∃ e1 y1 t1 v s1, poR o.o F' e' s = some (v, s1) ∧ RS t1 s1 ∧ q e1 y1 t1 = true ∧ RG D W (nxC al D W c k o) (nxK al D W c k o) e1 y1 (putO o.d v e') := by
  have hO := dO2_val hF h ho
  unfold dOne at hk
  unfold nxC nxK
  cases hd : o.d with
  | none =>
    rw [hd] at hk
    have hk' : (dO2 (acS c k) o.o).v F e y u (fun _ s => q e y s) = true := hk
    obtain ⟨v, v', t1, s1, h1, rfl, h3, h4⟩ := hO u s _ hs hk'
    exact ⟨e, y, t1, v, s1, h1, h3, h4, h⟩
  | some t =>
    rw [hd] at hk
    dsimp only at hk ⊢
    cases hD : Nat.testBit D t with
    | false =>
      rw [hD] at hk
      have hk' : (onto D W t (dO2 (acS c k) o.o).v).v F e y u q = true := hk
      obtain ⟨e1, y1, t1, v, s1, h1, h2, h3, h4⟩ := onto_ok hO h hs hk'
      rw [hD, if_neg (by simp), if_neg (by simp)] at h4
      exact ⟨e1, y1, t1, v, s1, h1, h2, h3, h4⟩
    | true =>
      rw [hD] at hk
      dsimp only at hk ⊢
      cases ha : alO al W c o.o with
      | none =>
        rw [ha] at hk
        have hk' : (onto D W t (dO2 (acS c k) o.o).v).v F e y u q = true := hk
        obtain ⟨e1, y1, t1, v, s1, h1, h2, h3, h4⟩ := onto_ok hO h hs hk'
        rw [hD, if_pos rfl, if_pos rfl] at h4
        exact ⟨e1, y1, t1, v, s1, h1, h2, h3, h4⟩
      | some w =>
        rw [ha] at hk
        cases al with
        | false => simp [alO] at ha
        | true =>
          obtain ⟨g, d, o⟩ := o
          cases o <;> first | (simp [alO, mvO] at ha; done) | skip
          rename_i x
          exact ⟨e, y, u, _, s, rfl, hs, hk, h.alias hD (fun n hn => List.all_eq_true.1 ho n hn) ha⟩
theorem dNot_ok {F : Fn} (h : RG D W c k e y e') {o : PS} {u : St} {s : S} {q : E → List AV → St → Bool} (hs : RS u s) (hk : (dNot D W o).v F e y u q = true) :
    ∃ e1 y1, q e1 y1 u = true ∧ RG D W (nxC false D W c k o) (nxK false D W c k o) e1 y1 (putO o.d und e') := by
  unfold dNot at hk
  unfold nxC nxK
  cases hd : o.d with
  | none =>
    rw [hd] at hk
    exact ⟨e, y, hk, h⟩
  | some t =>
    rw [hd] at hk
    dsimp only at hk ⊢
    unfold onto at hk
    cases hD : Nat.testBit D t with
    | true =>
      rw [hD] at hk
      exact ⟨e, und :: y, hk, h.push hD und⟩
    | false =>
      rw [hD] at hk
      dsimp only at hk ⊢
      cases hW : Nat.testBit W t with
      | false => rw [hW] at hk; cases hk
      | true =>
        rw [hW] at hk
        dsimp only at hk
        cases hp : ptS t with
        | none => rw [hp] at hk; cases hk
        | some p =>
          rw [hp] at hk
          have hk' : p.p und e (fun e => q e y u) = true := hk
          obtain ⟨e1, h5, h6⟩ := ptS_put hp und e hk'
          exact ⟨e1, y, h5, h.write hD hW h6⟩
end
noncomputable def plainR (F : Fns) (l : List PS) (e : Env) : Ev.M Env := match l with
  | [] => Ev.M.pure e
  | o :: l => Ev.M.bind (poR o.o F e) fun v => plainR F l (putO o.d v e)
noncomputable def undR (l : List PS) (e : Env) : Env := match l with
  | [] => e
  | o :: l => undR l (putO o.d und e)
theorem dGo_ok {D W : Nat} {F : Fn} {F' : Fns} (hF : RF F F') (al : Bool) : ∀ (l : List PS) (c : List Sg) (k : Nat) (e : E) (y : List AV) (e' : Env) (u : St) (s : S) (q : E → List AV → St → Bool), RG D W c k e y e' → RS u s → (dGo al D W c k l).v F e y u q = true →
    ∃ e1 y1 t1 e2 s1, plainR F' l e' s = some (e2, s1) ∧ RS t1 s1 ∧ q e1 y1 t1 = true ∧ RG D W (laC al D W c k l) (laK al D W c k l) e1 y1 e2
  | [], c, k, e, y, e', u, s, q, h, hs, hk => ⟨e, y, u, e', s, rfl, hs, hk, h⟩
  | o :: l, c, k, e, y, e', u, s, q, h, hs, hk => by
    unfold dGo at hk
    cases ho : (tmpsP o.o).all (okS D c) with
    | false => rw [ho] at hk; cases hk
    | true =>
      rw [ho] at hk
      have hk' : (dOne al D W c k o).v F e y u (fun e y s => (dGo al D W (nxC al D W c k o) (nxK al D W c k o) l).v F e y s q) = true := hk
      obtain ⟨e1, y1, t1, v, s1, h1, h2, h3, h4⟩ := dOne_ok hF al h ho hs hk'
      obtain ⟨e2, y2, t2, e3, s2, g1, g2, g3, g4⟩ := dGo_ok hF al l _ _ e1 y1 _ t1 s1 q h4 h2 h3
      exact ⟨e2, y2, t2, e3, s2, by simp only [plainR, Ev.M.bind, h1, g1], g2, g3, g4⟩
theorem dSkip_ok {D W : Nat} {F : Fn} : ∀ (l : List PS) (c : List Sg) (k : Nat) (e : E) (y : List AV) (e' : Env) (u : St) (s : S) (q : E → List AV → St → Bool), RG D W c k e y e' → RS u s → (dSkip D W l).v F e y u q = true →
    ∃ e1 y1, q e1 y1 u = true ∧ RG D W (laC false D W c k l) (laK false D W c k l) e1 y1 (undR l e')
  | [], c, k, e, y, e', u, s, q, h, hs, hk => ⟨e, y, hk, h⟩
  | o :: l, c, k, e, y, e', u, s, q, h, hs, hk => by
    have hk' : (dNot D W o).v F e y u (fun e y s => (dSkip D W l).v F e y s q) = true := hk
    obtain ⟨e1, y1, h1, h2⟩ := dNot_ok h hs hk'
    exact dSkip_ok l _ _ e1 y1 _ u s q h2 hs h1
theorem opsR_plain (F : Fns) : ∀ (l : List PS) (e : Env), (∀ o ∈ l, o.g = none) → opsR F l e = plainR F l e
  | [], _, _ => rfl
  | o :: l, e, h => by
    simp only [opsR, plainR, psR, psV, h o (by simp), wanted]
    funext s
    simp only [Ev.M.bind]
    cases poR o.o F e s with
    | none => rfl
    | some x =>
      obtain ⟨v, s1⟩ := x
      simp only [Ev.M.pure]
      rw [opsR_plain F l _ (fun o ho => h o (by simp [ho]))]
theorem noDst_cons {n : Nat} {o : PS} {l : List PS} (h : noDst n (o :: l) = true) : (∀ v (e : Env), putO o.d v e n = e n) ∧ noDst n l = true := by
  unfold noDst at h ⊢
  rw [List.all_cons, Bool.and_eq_true] at h
  refine ⟨fun v e => ?_, h.2⟩
  cases hd : o.d with
  | none => rfl
  | some t =>
    have h1 := h.1
    rw [hd] at h1
    dsimp only at h1
    have hn : n ≠ t := fun x => by rw [x, Nat.beq_refl] at h1; cases h1
    simp only [putO, if_neg hn]
theorem opsR_run (F : Fns) {nw : Nat × Bool} : ∀ (l : List PS) (e : Env), (∀ o ∈ l, o.g = some nw) → noDst nw.1 l = true → wanted (some nw) e = true → opsR F l e = plainR F l e
  | [], _, _, _, _ => rfl
  | o :: l, e, h, hn, hw => by
    obtain ⟨h1, h2⟩ := noDst_cons hn
    simp only [opsR, plainR, psR, psV, h o (by simp), hw]
    funext s
    simp only [Ev.M.bind]
    cases poR o.o F e s with
    | none => rfl
    | some x =>
      obtain ⟨v, s1⟩ := x
      simp only [Ev.M.pure]
      rw [opsR_run F l _ (fun o ho => h o (by simp [ho])) h2 (by unfold wanted at hw ⊢; dsimp only at hw ⊢; rw [h1]; exact hw)]
theorem opsR_skip (F : Fns) {nw : Nat × Bool} : ∀ (l : List PS) (e : Env), (∀ o ∈ l, o.g = some nw) → noDst nw.1 l = true → wanted (some nw) e = false → opsR F l e = Ev.M.pure (undR l e)
  | [], _, _, _, _ => rfl
  | o :: l, e, h, hn, hw => by
    obtain ⟨h1, h2⟩ := noDst_cons hn
    simp only [opsR, undR, psR, psV, h o (by simp), hw]
    funext s
    simp only [Ev.M.bind, Ev.M.pure]
    rw [opsR_skip F l _ (fun o ho => h o (by simp [ho])) h2 (by unfold wanted at hw ⊢; dsimp only at hw ⊢; rw [h1]; exact hw)]
    rfl
theorem opsR_append (F : Fns) : ∀ (l m : List PS) (e : Env), opsR F (l ++ m) e = Ev.M.bind (opsR F l e) fun e => opsR F m e
  | [], m, e => rfl
  | o :: l, m, e => by
    simp only [List.cons_append, opsR]
    funext s
    simp only [Ev.M.bind]
    cases psR o F e s with
    | none => rfl
    | some x =>
      obtain ⟨v, s1⟩ := x
      dsimp only
      rw [opsR_append F l m v]
      rfl
theorem dGp_ok {D W : Nat} {F : Fn} {F' : Fns} (hF : RF F F') {p : Gp} (hp : ∀ o ∈ p.l, o.g = p.g) {c : List Sg} {k : Nat} {e : E} {y : List AV} {e' : Env} {u : St} {s : S} {q : E → List AV → St → Bool} (h : RG D W c k e y e') (hs : RS u s) (hk : (dGp D W c k p).v F e y u q = true) :
    ∃ e1 y1 t1 e2 s1, opsR F' p.l e' s = some (e2, s1) ∧ RS t1 s1 ∧ q e1 y1 t1 = true ∧ RG D W (laC p.g.isNone D W c k p.l) (laK p.g.isNone D W c k p.l) e1 y1 e2 := by
  obtain ⟨g, l⟩ := p
  unfold dGp at hk
  cases g with
  | none =>
    obtain ⟨e1, y1, t1, e2, s1, h1, h2, h3, h4⟩ := dGo_ok hF true l c k e y e' u s q h hs hk
    exact ⟨e1, y1, t1, e2, s1, by rw [opsR_plain F' l e' hp]; exact h1, h2, h3, h4⟩
  | some nw =>
    obtain ⟨n, want⟩ := nw
    dsimp only at hk
    cases ho : (okS D c n && noDst n l) with
    | false => rw [ho] at hk; cases hk
    | true =>
      rw [ho] at hk
      rw [Bool.and_eq_true] at ho
      have hv := h.val ho.1
      have run : wanted (some (n, want)) e' = true → (dGo false D W c k l).v F e y u q = true → ∃ e1 y1 t1 e2 s1, opsR F' l e' s = some (e2, s1) ∧ RS t1 s1 ∧ q e1 y1 t1 = true ∧ RG D W (laC false D W c k l) (laK false D W c k l) e1 y1 e2 := fun hw hk => by
        obtain ⟨e1, y1, t1, e2, s1, h1, h2, h3, h4⟩ := dGo_ok hF false l c k e y e' u s q h hs hk
        exact ⟨e1, y1, t1, e2, s1, by rw [opsR_run F' l e' hp ho.2 hw]; exact h1, h2, h3, h4⟩
      have skip : wanted (some (n, want)) e' = false → (dSkip D W l).v F e y u q = true → ∃ e1 y1 t1 e2 s1, opsR F' l e' s = some (e2, s1) ∧ RS t1 s1 ∧ q e1 y1 t1 = true ∧ RG D W (laC false D W c k l) (laK false D W c k l) e1 y1 e2 := fun hw hk => by
        obtain ⟨e1, y1, h1, h2⟩ := dSkip_ok l c k e y e' u s q h hs hk
        exact ⟨e1, y1, u, _, s, by rw [opsR_skip F' l e' hp ho.2 hw]; rfl, hs, h1, h2⟩
      cases want with
      | true =>
        have hk' : sel2 ((acS c k n).g e y) (dGo false D W c k l).v (dSkip D W l).v (dSkip D W l).v F e y u q = true := hk
        rw [hv] at hk'
        cases hb : e' n <;> rw [hb] at hk' <;> first
          | exact skip (by simp only [wanted, hb]) hk'
          | skip
        rename_i b
        cases b
        · exact skip (by simp only [wanted, hb]; rfl) hk'
        · exact run (by simp only [wanted, hb]) hk'
      | false =>
        have hk' : sel2 ((acS c k n).g e y) (dSkip D W l).v (dGo false D W c k l).v (dSkip D W l).v F e y u q = true := hk
        rw [hv] at hk'
        cases hb : e' n <;> rw [hb] at hk' <;> first
          | exact skip (by simp only [wanted, hb]) hk'
          | skip
        rename_i b
        cases b
        · exact run (by simp only [wanted, hb]; rfl) hk'
        · exact skip (by simp only [wanted, hb]) hk'
theorem dGps_ok {D W : Nat} {F : Fn} {F' : Fns} (hF : RF F F') : ∀ (l : List Gp) (c : List Sg) (k : Nat) (e : E) (y : List AV) (e' : Env) (u : St) (s : S) (q : E → List AV → St → Bool), (∀ p ∈ l, ∀ o ∈ p.l, o.g = p.g) → RG D W c k e y e' → RS u s → (dGps D W c k l).v F e y u q = true →
    ∃ e1 y1 t1 e2 s1, opsR F' (l.flatMap Gp.l) e' s = some (e2, s1) ∧ RS t1 s1 ∧ q e1 y1 t1 = true ∧ RED D e1 e2
  | [], c, k, e, y, e', u, s, q, hp, h, hs, hk => ⟨e, y, u, e', s, rfl, hs, hk, h.red⟩
  | p :: l, c, k, e, y, e', u, s, q, hp, h, hs, hk => by
    have hk' : (dGp D W c k p).v F e y u (fun e y s => (dGps D W (laC p.g.isNone D W c k p.l) (laK p.g.isNone D W c k p.l) l).v F e y s q) = true := hk
    obtain ⟨e1, y1, t1, e2, s1, h1, h2, h3, h4⟩ := dGp_ok hF (hp p (by simp)) h hs hk'
    obtain ⟨e3, y3, t3, e4, s3, g1, g2, g3, g4⟩ := dGps_ok hF l _ _ e1 y1 e2 t1 s1 q (fun p hq => hp p (by simp [hq])) h4 h2 h3
    exact ⟨e3, y3, t3, e4, s3, by rw [List.flatMap_cons, opsR_append]; simp only [Ev.M.bind, h1, g1], g2, g3, g4⟩
theorem gEq_eq {a b : Option (Nat × Bool)} (h : gEq a b = true) : a = b := by
  unfold gEq at h
  cases a with
  | none => cases b <;> first | rfl | cases h
  | some x =>
    cases b with
    | none => cases h
    | some y =>
      obtain ⟨x1, x2⟩ := x
      obtain ⟨y1, y2⟩ := y
      dsimp only at h
      rw [Bool.and_eq_true] at h
      rw [Nat.eq_of_beq_eq_true h.1, (by simpa using h.2 : x2 = y2)]
theorem grp_ok : ∀ l : List PS, (grp l).flatMap Gp.l = l ∧ ∀ p ∈ grp l, ∀ o ∈ p.l, o.g = p.g
  | [] => ⟨rfl, fun p hp => by cases hp⟩
  | o :: l => by
    obtain ⟨h1, h2⟩ := grp_ok l
    unfold grp
    cases hg : grp l with
    | nil =>
      rw [hg] at h1
      refine ⟨by rw [← h1]; rfl, fun p hp x hx => ?_⟩
      simp only [List.mem_singleton] at hp
      subst hp
      simp only [List.mem_singleton] at hx
      rw [hx]
    | cons p r =>
      rw [hg] at h1 h2
      dsimp only
      cases he : gEq o.g p.g with
      | true =>
        have heq := gEq_eq he
        refine ⟨by rw [← h1]; rfl, fun p' hp' x hx => ?_⟩
        rcases List.mem_cons.1 hp' with rfl | hp'
        · rcases List.mem_cons.1 hx with rfl | hx
          · rfl
          · exact (h2 p (by simp) x hx).trans heq.symm
        · exact h2 p' (by simp [hp']) x hx
      | false =>
        refine ⟨by rw [← h1]; rfl, fun p' hp' x hx => ?_⟩
        rcases List.mem_cons.1 hp' with rfl | hp'
        · simp only [List.mem_singleton] at hx
          rw [hx]
        · exact h2 p' hp' x hx
theorem dReg_ok {D : Nat} {F : Fn} {F' : Fns} (hF : RF F F') (ops : List PS) {e : E} {e' : Env} (h : RED D e e') : Ref (RED D) ((dReg D ops).v F e) (opsR F' ops e') := by
  intro t s k hs hk
  have hk' : (dGps D (lessN (dstM ops) D) [] 0 (grp ops)).v F e [] t (fun e _ s => k e s) = true := hk
  obtain ⟨g1, g2⟩ := grp_ok ops
  obtain ⟨e1, y1, t1, e2, s1, h1, h2, h3, h4⟩ := dGps_ok hF (grp ops) [] 0 e [] e' t s _ g2
    ⟨h, rfl, (fun n v hv => by cases hv), (fun n v hv => by cases hv), (fun n v hv => by cases hv), (fun n v hv => by cases hv)⟩ hs hk'
  rw [g1] at h1
  exact ⟨e1, e2, t1, s1, h1, h4, h2, h3⟩

/- what a drawn region asks -/
theorem hitQ_eq (a b : Rng) : hitQ a b = hit a b := by
  unfold hitQ hit
  rw [nmQ_eq, nmQ_eq]
  cases Nat.beq a.id.num b.id.num <;> dsimp only
  · rfl
  · have h1 : Nat.blt a.lo (Nat.add b.lo b.m) = Nat.blt a.lo (b.lo + b.m) := rfl
    rw [h1]
    cases Nat.blt a.lo (b.lo + b.m) <;> rfl
theorem anyQ_eq (x : Rng) : ∀ l : List Rng, anyQ x l = l.any fun y => hit x y
  | [] => rfl
  | y :: l => by
    show Bool.rec (motive := fun _ => (Rng → Bool) → Rng → Bool) (fun ih x => ih x) (fun _ _ => true) (hitQ x y) (fun x => anyQ x l) x = _
    rw [hitQ_eq, List.any_cons]
    cases hit x y
    · exact anyQ_eq x l
    · rfl
theorem hits_nil (a : List Rng) : hits a [] = false := by
  induction a with
  | nil => rfl
  | cons x a ih =>
    unfold hits at ih ⊢
    rw [List.any_cons, ih]
    rfl
theorem hitR_eq (b : List Rng) : ∀ a : List Rng, hitR a b = hits a b
  | [] => rfl
  | x :: a => by
    show Bool.rec (motive := fun _ => (List Rng → Bool) → List Rng → Bool) (fun ih b => ih b) (fun _ _ => true) (anyQ x b) (fun b => hitR a b) b = _
    have ih := hitR_eq b a
    rw [anyQ_eq]
    unfold hits at ih ⊢
    rw [List.any_cons]
    cases b.any fun z => hit x z
    · exact ih
    · rfl
theorem hitsQ_eq (a b : List Rng) : hitsQ a b = hits a b := by
  cases b with
  | nil => rw [hits_nil]; rfl
  | cons y b => exact hitR_eq (y :: b) a
theorem clashQ_eq (m : Nat) (b a : Ft) : clashQ m b a = clash m b a := by
  unfold clashQ clash
  simp only [hitsQ_eq]
  cases Nat.testBit m a.i <;> rfl
inductive RA : Nat → Nat → List Ft → List Ft → Prop where
  | nil : RA 0 0 [] []
  | keep {i mem : Nat} {x y : List Ft} (r w : List Rng) : RA i mem x y → RA (i + 1) (Nat.lor mem (Nat.shiftLeft 1 i)) (⟨i, r, w⟩ :: x) (⟨i, r, w⟩ :: y)
  | drop {i mem : Nat} {x y : List Ft} : RA i mem x y → RA (i + 1) mem x (⟨i, [], []⟩ :: y)
theorem clash_nil (m : Nat) (b : Ft) (i : Nat) : clash m b ⟨i, [], []⟩ = false := by
  unfold clash
  cases Nat.testBit m (Ft.i ⟨i, [], []⟩) <;> rfl
theorem RA.any {i mem : Nat} {x y : List Ft} (h : RA i mem x y) (m : Nat) (b : Ft) : y.any (clash m b) = x.any (clash m b) := by
  induction h with
  | nil => rfl
  | keep r w _ ih => rw [List.any_cons, List.any_cons, ih]
  | drop _ ih => rw [List.any_cons, ih, clash_nil, Bool.false_or]
theorem testBit_self (i : Nat) : Nat.testBit (Nat.shiftLeft 1 i) i = true := by
  show Nat.testBit (1 <<< i) i = true
  simp [Nat.testBit_shiftLeft]
theorem RA.mem {i mem : Nat} {x y : List Ft} (h : RA i mem x y) : ∀ a ∈ x, Nat.testBit mem a.i = true := by
  induction h with
  | nil => intro a ha; cases ha
  | @keep i mem x y r w _ ih =>
    intro a ha
    show Nat.testBit (mem ||| Nat.shiftLeft 1 i) a.i = true
    rw [Nat.testBit_or]
    rcases List.mem_cons.1 ha with rfl | ha
    · rw [testBit_self, Bool.or_true]
    · rw [ih a ha, Bool.true_or]
  | drop _ ih => exact ih
theorem RA.quiet {i mem : Nat} {x y : List Ft} (h : RA i mem x y) {m : Nat} (hm : Nat.beq (Nat.land mem m) mem = true) (b : Ft) : x.any (clash m b) = false := by
  rw [List.any_eq_false]
  intro a ha
  have h1 := h.mem a ha
  have h2 : mem &&& m = mem := Nat.eq_of_beq_eq_true hm
  rw [← h2, Nat.testBit_and, Bool.and_eq_true] at h1
  unfold clash
  rw [h1.2]
  simp
theorem quiet_fld (off m : Nat) (ag : Bool) (x : AV) (s : S) : Ev.fldF off m ag x s = none ∨ ∃ v, ∀ s, Ev.fldF off m ag x s = some (v, s) := by
  unfold Ev.fldF
  cases x <;> first | exact .inl rfl | skip
  rename_i xs
  dsimp only
  cases Nat.ble (off + m) xs.length with
  | false => exact .inl rfl
  | true =>
    cases ag with
    | true => exact .inr ⟨_, fun s => rfl⟩
    | false =>
      dsimp only [Ev.M.ofO]
      cases xs[off]? with
      | none => exact .inl rfl
      | some c => exact .inr ⟨_, fun s => rfl⟩
theorem quiet_op {o : PO} (hm : memP o = false) (F : Fns) (e : Env) (s : S) : poR o F e s = none ∨ ∃ v, (∀ s, poR o F e s = some (v, s)) := by
  have hof : ∀ x : Option AV, Ev.M.ofO x Ev.M.pure s = none ∨ ∃ v, (∀ s, Ev.M.ofO x Ev.M.pure s = some (v, s)) := fun x => by
    cases x with
    | none => exact .inl rfl
    | some v => exact .inr ⟨v, fun s => rfl⟩
  cases o <;> first | (cases hm; done) | skip
  case mv x => exact .inr ⟨_, fun s => rfl⟩
  case pick c a b =>
    show Ev.pickF (arg c e) (arg a e) (arg b e) s = none ∨ ∃ v, ∀ s, Ev.pickF (arg c e) (arg a e) (arg b e) s = some (v, s)
    cases arg c e <;> first | exact .inl rfl | skip
    rename_i t
    cases t <;> exact .inr ⟨_, fun s => rfl⟩
  case build cs ps =>
    show Ev.M.ofO (fillL e ps cs) (fun l => Ev.M.pure (AV.ag l)) s = none ∨ ∃ v, ∀ s, Ev.M.ofO (fillL e ps cs) (fun l => Ev.M.pure (AV.ag l)) s = some (v, s)
    cases fillL e ps cs with
    | none => exact .inl rfl
    | some l => exact .inr ⟨_, fun s => rfl⟩
  case nilc x =>
    show Ev.nilF (arg x e) s = none ∨ ∃ v, ∀ s, Ev.nilF (arg x e) s = some (v, s)
    cases arg x e <;> first | exact .inl rfl | exact .inr ⟨_, fun s => rfl⟩
  case bin o x y =>
    show Ev.binF o (arg x e) (arg y e) s = none ∨ ∃ v, ∀ s, Ev.binF o (arg x e) (arg y e) s = some (v, s)
    have hstr : ∀ (x : List Nat) (y : AV), Ev.strF o x y s = none ∨ ∃ v, ∀ s, Ev.strF o x y s = some (v, s) := fun x y => by
      cases y <;> first | exact .inl rfl | skip
      rename_i y
      cases o <;> first | exact .inl rfl | exact .inr ⟨_, fun s => rfl⟩ | skip
      show Ev.M.ifB (Nat.ble (x.length + y.length) lim) (Ev.M.pure (AV.s (x ++ y))) s = none ∨ ∃ v, ∀ s, Ev.M.ifB (Nat.ble (x.length + y.length) lim) (Ev.M.pure (AV.s (x ++ y))) s = some (v, s)
      cases Nat.ble (x.length + y.length) lim with
      | false => exact .inl rfl
      | true => exact .inr ⟨_, fun s => rfl⟩
    have hif : ∀ (b : Bool) (x : Option AV), Ev.M.ifB b (Ev.M.ofO x Ev.M.pure) s = none ∨ ∃ v, ∀ s, Ev.M.ifB b (Ev.M.ofO x Ev.M.pure) s = some (v, s) := fun b x => by
      cases b with
      | false => exact .inl rfl
      | true => exact hof x
    cases arg x e <;> first | exact .inl rfl | exact hstr _ _ | skip
    cases arg y e <;> first | exact .inl rfl | skip
    cases o <;> first | exact hof _ | exact hif _ _
  case un o x => exact hof _
  case cvi k x =>
    show Ev.cviF k (arg x e) s = none ∨ ∃ v, ∀ s, Ev.cviF k (arg x e) s = some (v, s)
    cases arg x e <;> first | exact .inl rfl | exact .inr ⟨_, fun s => rfl⟩
  case mkf fn a b => exact .inr ⟨_, fun s => rfl⟩
  case fad off x =>
    show Ev.fadF off (arg x e) s = none ∨ ∃ v, ∀ s, Ev.fadF off (arg x e) s = some (v, s)
    cases arg x e <;> first | exact .inl rfl | exact .inr ⟨_, fun s => rfl⟩
  case ixa n w x i =>
    show Ev.ixaF n w (arg x e) (arg i e) s = none ∨ ∃ v, ∀ s, Ev.ixaF n w (arg x e) (arg i e) s = some (v, s)
    unfold Ev.ixaF
    cases natOf (arg i e) with
    | none => exact .inl rfl
    | some a =>
      cases arg x e <;> first | exact .inl rfl | skip
      dsimp only [Ev.M.ofO]
      cases Nat.blt a n with
      | false => exact .inl rfl
      | true => exact .inr ⟨_, fun s => rfl⟩
  case ixs w x i =>
    show Ev.ixsF w (arg x e) (arg i e) s = none ∨ ∃ v, ∀ s, Ev.ixsF w (arg x e) (arg i e) s = some (v, s)
    unfold Ev.ixsF
    cases natOf (arg i e) with
    | none => exact .inl rfl
    | some a =>
      cases arg x e with
      | sl id off len cap =>
        dsimp only [Ev.M.ofO]
        cases Nat.blt a len with
        | false => exact .inl rfl
        | true => exact .inr ⟨_, fun s => rfl⟩
      | so id off len k w' =>
        dsimp only [Ev.M.ofO]
        cases Nat.blt a len with
        | false => exact .inl rfl
        | true => exact .inr ⟨_, fun s => rfl⟩
      | _ => exact .inl rfl
  case ext x j =>
    show Ev.extF (arg x e) j s = none ∨ ∃ v, ∀ s, Ev.extF (arg x e) j s = some (v, s)
    cases arg x e <;> first | exact .inl rfl | exact hof _
  case len x => exact hof _
  case mm mx x l => exact hof _
  case fld off m ag x =>
    show Ev.fldF off m ag (arg x e) s = none ∨ ∃ v, ∀ s, Ev.fldF off m ag (arg x e) s = some (v, s)
    exact quiet_fld _ _ _ _ s
  case idx n w ag x i =>
    show Ev.idxF n w ag (arg x e) (arg i e) s = none ∨ ∃ v, ∀ s, Ev.idxF n w ag (arg x e) (arg i e) s = some (v, s)
    unfold Ev.idxF
    cases natOf (arg i e) with
    | none => exact .inl rfl
    | some a =>
      dsimp only [Ev.M.ofO]
      cases Nat.blt a n with
      | false => exact .inl rfl
      | true => exact quiet_fld _ _ _ _ s
  case ixt x i =>
    show Ev.ixtF (arg x e) (arg i e) s = none ∨ ∃ v, ∀ s, Ev.ixtF (arg x e) (arg i e) s = some (v, s)
    unfold Ev.ixtF
    cases natOf (arg i e) with
    | none => exact .inl rfl
    | some a =>
      cases arg x e <;> first | exact .inl rfl | skip
      rename_i b
      dsimp only [Ev.M.ofO]
      cases b[a]? with
      | none => exact .inl rfl
      | some c => exact .inr ⟨_, fun s => rfl⟩
  case sap n x =>
    show Ev.sapF n (arg x e) s = none ∨ ∃ v, ∀ s, Ev.sapF n (arg x e) s = some (v, s)
    have hif : ∀ (b : Bool) (v : AV), Ev.M.ifB b (Ev.M.pure v) s = none ∨ ∃ v', ∀ s, Ev.M.ifB b (Ev.M.pure v) s = some (v', s) := fun b v => by
      cases b with
      | false => exact .inl rfl
      | true => exact .inr ⟨_, fun s => rfl⟩
    cases arg x e <;> first | exact .inl rfl | exact hif _ _
  case bad => exact .inl rfl
theorem quiet_ps {o : PS} (hm : memP o.o = false) (F : Fns) (e : Env) (s : S) : psR o F e s = none ∨ ∃ v, (∀ s, psR o F e s = some (v, s)) := by
  unfold psR psV
  cases wanted o.g e with
  | true =>
    rcases quiet_op hm F e s with h | ⟨v, h⟩
    · left
      simp only [Ev.M.bind, h]
    · right
      exact ⟨_, fun s => by simp only [Ev.M.bind, h]; rfl⟩
  | false => exact .inr ⟨_, fun s => rfl⟩
theorem dAp_ok {F : Fn} {o : SV} {e : E} {m : Ev.M Env} {R : E → Env → Prop} (h : Ref R (o.v F e) m) {t : St} {s : S} {k : E → List Rng → List Rng → St → Bool} (hs : RS t s) (hk : (dAp o).v F e t k = true) :
    ∃ a b r w t' s', Ev.M.apart m s = some ((b, r, w), s') ∧ R a b ∧ RS t' s' ∧ k a r w t' = true := by
  obtain ⟨tr, hh, n, r, w⟩ := t
  obtain ⟨tr', hh', n', r', w'⟩ := s
  obtain ⟨e1, e2, e3, e4, e5⟩ := hs
  simp only at e1 e3 e4 e5
  subst e1 e3 e4 e5
  change o.v F e ⟨true, hh, n, [], []⟩ (fun e' t => apQ tr r w e' t k) = true at hk
  obtain ⟨a, b, t1, s1, h1, h2, h3, h4⟩ := h ⟨true, hh, n, [], []⟩ ⟨true, hh', n, [], []⟩ _ ⟨rfl, e2, rfl, rfl, rfl⟩ hk
  obtain ⟨tr1, hh1, n1, r1, w1⟩ := t1
  obtain ⟨tr1', hh1', n1', r1', w1'⟩ := s1
  obtain ⟨f1, f2, f3, f4, f5⟩ := h3
  simp only at f1 f3 f4 f5
  subst f1 f3 f4 f5
  unfold Ev.M.apart
  simp only [h1]
  cases tr
  · exact ⟨a, b, r1, w1, ⟨false, hh1, n1, r, w⟩, _, rfl, h2, ⟨rfl, f2, rfl, rfl, rfl⟩, h4⟩
  · exact ⟨a, b, r1, w1, ⟨true, hh1, n1, r1 ++ r, w1 ++ w⟩, _, rfl, h2, ⟨rfl, f2, rfl, rfl, rfl⟩, h4⟩
theorem dDrw_ok {D : Nat} {F : Fn} {F' : Fns} (hF : RF F F') : ∀ (l : List PS) (ms : List Nat) (acc acc' : List Ft) (i mem : Nat) (e : E) (e' : Env), (∀ o ∈ l, ∀ n ∈ readsS o, Nat.testBit D n = false) → RED D e e' → RA i mem acc acc' → Ref (RED D) ((dDrw l ms i mem).v F acc e) (drwR F' l ms acc' i e')
  | [], ms, acc, acc', i, mem, e, e', hc, h, ha => Ref.pure h
  | o :: l, [], acc, acc', i, mem, e, e', hc, h, ha => Ref.no
  | o :: l, m :: ms, acc, acc', i, mem, e, e', hc, h, ha => by
    intro t s k hs hk
    unfold dDrw at hk
    have hdrw : ∀ {b : Env} {r w : List Rng} {s1 : S}, Ev.M.apart (psR o F' e') s = some ((b, r, w), s1) → acc'.any (clash m ⟨i, r, w⟩) = false →
        drwR F' (o :: l) (m :: ms) acc' i e' s = drwR F' l ms (⟨i, r, w⟩ :: acc') (i + 1) b s1 := fun h1 h2 => by
      simp only [drwR, Ev.M.bind, h1, h2]
    cases hm : memP o.o with
    | false =>
      simp only [hm] at hk
      change (dS o).v F e t (fun e s => (dDrw l ms (i + 1) mem).v F acc e s k) = true at hk
      obtain ⟨a, b, t1, s1, h1, h2, h3, h4⟩ := dS_ok hF h (hc o (by simp)) t s _ hs hk
      rcases quiet_ps hm F' e' s with hn | ⟨v, hv⟩
      · rw [hn] at h1; cases h1
      · rw [hv s] at h1
        cases h1
        have hap : Ev.M.apart (psR o F' e') s = some ((b, [], []), s) := by
          obtain ⟨tr, hh, n, r, w⟩ := s
          unfold Ev.M.apart
          simp only [hv]
          cases tr <;> rfl
        have hcl : acc'.any (clash m ⟨i, [], []⟩) = false := by
          rw [List.any_eq_false]
          intro x _
          unfold clash
          cases Nat.testBit m x.i
          · simp only [hits_nil]
            simp
          · simp
        rw [hdrw hap hcl]
        exact dDrw_ok hF l ms acc _ (i + 1) mem a b (fun o ho => hc o (by simp [ho])) h2 ha.drop t1 s k h3 h4
    | true =>
      simp only [hm] at hk
      have hgo : ∀ {r w : List Rng} {a : E} {b : Env} {t1 : St} {s1 : S}, Ev.M.apart (psR o F' e') s = some ((b, r, w), s1) → acc'.any (clash m ⟨i, r, w⟩) = false → RED D a b → RS t1 s1 →
          (dDrw l ms (i + 1) (Nat.lor mem (Nat.shiftLeft 1 i))).v F (⟨i, r, w⟩ :: acc) a t1 k = true → ∃ a b t' s', drwR F' (o :: l) (m :: ms) acc' i e' s = some (b, s') ∧ RED D a b ∧ RS t' s' ∧ k a t' = true := fun h1 h2 h3 h4 h5 => by
        rw [hdrw h1 h2]
        exact dDrw_ok hF l ms _ _ (i + 1) _ _ _ (fun o ho => hc o (by simp [ho])) h3 (ha.keep _ _) _ _ k h4 h5
      cases hb : Nat.beq (Nat.land mem m) mem with
      | true =>
        simp only [hb] at hk
        change (dAp (dS o)).v F e t (fun e r w s => (dDrw l ms (i + 1) (Nat.lor mem (Nat.shiftLeft 1 i))).v F (⟨i, r, w⟩ :: acc) e s k) = true at hk
        obtain ⟨a, b, r, w, t1, s1, h1, h2, h3, h4⟩ := dAp_ok (dS_ok hF h (hc o (by simp))) hs hk
        exact hgo h1 (by rw [ha.any]; exact ha.quiet hb _) h2 h3 h4
      | false =>
        simp only [hb] at hk
        change (dAp (dS o)).v F e t (fun e r w s => Bool.rec (motive := fun _ => (Fn → List Ft → E → St → (E → St → Bool) → Bool) → Fn → List Ft → E → St → (E → St → Bool) → Bool) (fun g F acc e s k => g F acc e s k) (fun _ _ _ _ _ _ => false) (acc.any (clashQ m ⟨i, r, w⟩)) (dDrw l ms (i + 1) (Nat.lor mem (Nat.shiftLeft 1 i))).v F (⟨i, r, w⟩ :: acc) e s k) = true at hk
        obtain ⟨a, b, r, w, t1, s1, h1, h2, h3, h4⟩ := dAp_ok (dS_ok hF h (hc o (by simp))) hs hk
        have hq : clashQ m ⟨i, r, w⟩ = clash m ⟨i, r, w⟩ := by funext x; exact clashQ_eq _ _ _
        rw [hq] at h4
        cases hc : acc.any (clash m ⟨i, r, w⟩) with
        | true => rw [hc] at h4; cases h4
        | false =>
          rw [hc] at h4
          exact hgo h1 (by rw [ha.any]; exact hc) h2 h3 h4

def RefC (D : Nat) (q : St → (E → St → Bool) → (Ex → E → St → Bool) → Bool) (m : Ev.M (Option Ex × Env)) : Prop := ∀ t s k x, RS t s → q t k x = true →
  ∃ e1 t1 y s', m s = some (y, s') ∧ RED D e1 y.2 ∧ RS t1 s' ∧ ((y.1 = none ∧ k e1 t1 = true) ∨ ∃ ex, y.1 = some ex ∧ x ex e1 t1 = true)
theorem RefC.of {D : Nat} {q : M E} {m : Ev.M Env} (h : Ref (RED D) q m) : RefC D (fun s k _ => q s k) (Ev.M.bind m fun e => Ev.M.pure (none, e)) := by
  intro t s k x hs hk
  obtain ⟨a, b, t1, s1, h1, h2, h3, h4⟩ := h t s k hs hk
  exact ⟨a, t1, (none, b), s1, by simp only [Ev.M.bind, h1]; rfl, h2, h3, .inl ⟨rfl, h4⟩⟩
theorem itQ_ok {D : Nat} {c : Fn → E → St → (E → St → Bool) → (Ex → E → St → Bool) → Bool} {F : Fn} {m : Env → Ev.M (Option Ex × Env)} (hb : ∀ e e', RED D e e' → RefC D (c F e) (m e')) : ∀ (n : Nat) (e : E) (e' : Env), RED D e e' → RefC D (fun s k x => itQ n c F e s k x) (iter n m e')
  | 0, e, e', h => fun t s k x hs hk => by cases hk
  | n + 1, e, e', h => fun t s k x hs hk => by
    change c F e t (fun e s => itQ n c F e s k x) x = true at hk
    obtain ⟨e1, t1, y, s1, h1, h2, h3, h4⟩ := hb e e' h t s _ _ hs hk
    obtain ⟨y1, y2⟩ := y
    rcases h4 with ⟨rfl, h4⟩ | ⟨ex, rfl, h4⟩
    · obtain ⟨e2, t2, z, s2, g1, g2, g3, g4⟩ := itQ_ok hb n e1 y2 h2 t1 s1 k x h3 h4
      exact ⟨e2, t2, z, s2, by simp only [iter, Ev.M.bind, h1, g1], g2, g3, g4⟩
    · exact ⟨e1, t1, (some ex, y2), s1, by simp only [iter, Ev.M.bind, h1]; rfl, h2, h3, .inr ⟨ex, rfl, h4⟩⟩
theorem dC_ok {D : Nat} {F : Fn} {F' : Fns} (hF : RF F F') : ∀ (c : PC) (e : E) (e' : Env), RED D e e' → RefC D ((dC D c).v F e) (coR F' c e')
  | .skip, e, e', h => fun t s k x hs hk => ⟨e, t, _, s, rfl, h, hs, .inl ⟨rfl, hk⟩⟩
  | .ret, e, e', h => fun t s k x hs hk => ⟨e, t, _, s, rfl, h, hs, .inr ⟨_, rfl, hk⟩⟩
  | .exit id, e, e', h => fun t s k x hs hk => ⟨e, t, _, s, rfl, h, hs, .inr ⟨_, rfl, hk⟩⟩
  | .seq a b, e, e', h => fun t s k x hs hk => by
    change (dC D a).v F e t (fun e s => (dC D b).v F e s k x) x = true at hk
    obtain ⟨e1, t1, y, s1, h1, h2, h3, h4⟩ := dC_ok hF a e e' h t s _ _ hs hk
    obtain ⟨y1, y2⟩ := y
    rcases h4 with ⟨rfl, h4⟩ | ⟨ex, rfl, h4⟩
    · obtain ⟨e2, t2, z, s2, g1, g2, g3, g4⟩ := dC_ok hF b e1 y2 h2 t1 s1 k x h3 h4
      exact ⟨e2, t2, z, s2, by simp only [coR, Ev.M.bind, h1, g1], g2, g3, g4⟩
    · exact ⟨e1, t1, (some ex, y2), s1, by simp only [coR, Ev.M.bind, h1]; rfl, h2, h3, .inr ⟨ex, rfl, h4⟩⟩
  | .cond c a b, e, e', h => fun t s k x hs hk => by
    unfold dC at hk
    cases hc : clr D (tmpsA c) with
    | false => rw [hc] at hk; cases hk
    | true =>
      rw [hc] at hk
      change cndQ ((gA c).g e) (dC D a) (dC D b) F e t k x = true at hk
      rw [gA_red h hc] at hk
      simp only [coR]
      cases hv : arg c e' <;> rw [hv] at hk <;> first | (cases hk; done) | skip
      rename_i v
      cases v
      · exact dC_ok hF b e e' h t s k x hs hk
      · exact dC_ok hF a e e' h t s k x hs hk
  | .block id b, e, e', h => fun t s k x hs hk => by
    change (dC D b).v F e t k (fun ex e s => blQ id ex e s k x) = true at hk
    obtain ⟨e1, t1, y, s1, h1, h2, h3, h4⟩ := dC_ok hF b e e' h t s _ _ hs hk
    obtain ⟨y1, y2⟩ := y
    rcases h4 with ⟨rfl, h4⟩ | ⟨ex, rfl, h4⟩
    · exact ⟨e1, t1, (none, y2), s1, by simp only [coR, Ev.M.bind, h1]; rfl, h2, h3, .inl ⟨rfl, h4⟩⟩
    · cases ex with
      | ret => exact ⟨e1, t1, (some .ret, y2), s1, by simp only [coR, Ev.M.bind, h1]; rfl, h2, h3, .inr ⟨_, rfl, h4⟩⟩
      | exit j =>
        unfold blQ at h4
        dsimp only at h4
        cases hj : Nat.beq j id with
        | true =>
          rw [hj] at h4
          exact ⟨e1, t1, (none, y2), s1, by simp only [coR, Ev.M.bind, h1, hj]; rfl, h2, h3, .inl ⟨rfl, h4⟩⟩
        | false =>
          rw [hj] at h4
          exact ⟨e1, t1, (some (.exit j), y2), s1, by simp only [coR, Ev.M.bind, h1, hj]; rfl, h2, h3, .inr ⟨_, rfl, h4⟩⟩
  | .loop b, e, e', h => fun t s k x hs hk => by
    change itQ rounds (dC D b).v F e t k x = true at hk
    simp only [coR]
    revert hk
    generalize rounds = N
    intro hk
    exact itQ_ok (fun e e' h => dC_ok hF b e e' h) N e e' h t s k x hs hk
  | .reg ops, e, e', h => RefC.of (dReg_ok hF ops h)
  | .drw ops ms, e, e', h => by
    unfold dC
    cases hc : clr D (ops.flatMap readsS) with
    | false => exact fun t s k x hs hk => by cases hk
    | true => exact RefC.of (dDrw_ok hF ops ms [] [] 0 0 e e' (fun o ho n hn => clr_mem hc (List.mem_flatMap.2 ⟨o, ho, hn⟩)) h .nil)
theorem fo_pure (v : AV) (f : AV → M (List AV)) : (fun s k => fo1 v fun v => f v s k) = f v := by
  funext s k
  exact fo1_eq v _
theorem dR_ok {D : Nat} {e : E} {e' : Env} (h : RED D e e') : ∀ l : List PR, clr D (resN l) = true → Ref Eq ((dR l).v e) (resL e' l)
  | [], _ => Ref.ret _
  | .t n :: l, hc => by
    have h1 := h n (clr_mem hc (by simp [resN]))
    have h2 : clr D (resN l) = true := clr_sub hc (by simp [resN]; intro a b; exact .inr b)
    show Ref Eq (fun s k => fo1 ((gtS n).g e) fun v => (M.bind ((dR l).v e) fun vs => M.pure (v :: vs)) s k) _
    rw [fo_pure ((gtS n).g e) fun v => M.bind ((dR l).v e) fun vs => M.pure (v :: vs)]
    simp only [resL, h1]
    exact Ref.eqv (dR_ok h l h2) fun vs => Ref.ret _
  | .c1 n :: l, hc => by
    have h1 := h n (clr_mem hc (by simp [resN]))
    have h2 : clr D (resN l) = true := clr_sub hc (by simp [resN]; intro a b; exact .inr b)
    show Ref Eq (M.bind (Kq.ldF ((gtS n).g e)) fun v => M.bind ((dR l).v e) fun vs => M.pure (v :: vs)) _
    simp only [resL, h1]
    exact Ref.eqv (Ref.ldF _) fun v => Ref.eqv (dR_ok h l h2) fun vs => Ref.ret _
  | .cn m n :: l, hc => by
    have h1 := h n (clr_mem hc (by simp [resN]))
    have h2 : clr D (resN l) = true := clr_sub hc (by simp [resN]; intro a b; exact .inr b)
    show Ref Eq (M.bind (Kq.ldnF m ((gtS n).g e)) fun v => M.bind ((dR l).v e) fun vs => M.pure (v :: vs)) _
    simp only [resL, h1]
    exact Ref.eqv (Ref.ldnF _ _) fun v => Ref.eqv (dR_ok h l h2) fun vs => Ref.ret _
theorem gt_l (c : Dg) : gt c l1 = und := gt_all c und
theorem gt_e8 (l : List AV) (n : Nat) (hn : l.length ≤ 8 ∨ n < 8) : (gtS n).g ⟨pk l, l2, l3⟩ = match l[n]? with
    | some v => v
    | none => und := by
  cases ha : dgs (n / 64) with
  | none =>
    have hbig : 64 ≤ n := by
      rcases Nat.lt_or_ge n 64 with h | h
      · rw [Nat.div_eq_of_lt h] at ha; cases ha
      · exact h
    unfold gtS
    rw [ha, List.getElem?_eq_none (by omega)]
  | some a =>
    cases hb : dgs (n / 8 % 8) with
    | none =>
      exfalso
      have : n / 8 % 8 < 8 := Nat.mod_lt _ (by omega)
      revert hb
      generalize n / 8 % 8 = q at this
      match q, this with
      | 0, _ => simp [dgs]
      | 1, _ => simp [dgs]
      | 2, _ => simp [dgs]
      | 3, _ => simp [dgs]
      | 4, _ => simp [dgs]
      | 5, _ => simp [dgs]
      | 6, _ => simp [dgs]
      | 7, _ => simp [dgs]
      | _ + 8, h => omega
    | some b =>
      cases hc : dgs (n % 8) with
      | none =>
        exfalso
        have : n % 8 < 8 := Nat.mod_lt _ (by omega)
        revert hc
        generalize n % 8 = q at this
        match q, this with
        | 0, _ => simp [dgs]
        | 1, _ => simp [dgs]
        | 2, _ => simp [dgs]
        | 3, _ => simp [dgs]
        | 4, _ => simp [dgs]
        | 5, _ => simp [dgs]
        | 6, _ => simp [dgs]
        | 7, _ => simp [dgs]
        | _ + 8, h => omega
      | some c =>
        rw [gtS_eq ha hb hc]
        cases h8 : Nat.blt n 8 <;> dsimp only
        · have := blt_f h8
          rw [List.getElem?_eq_none (by omega)]
          cases Nat.blt n 64 <;> dsimp only
          · simp only [l3, gt_all, l2, gt_l]
          · simp only [l2, gt_all, gt_l]
        · have := blt_t h8
          rw [pk_get, ← dgs_val hc, Nat.mod_eq_of_lt this]
          cases l[n]? <;> rfl
theorem argQ_ok : ∀ (l : List AV) (i : Nat) (e : E) (k : E → Bool), argQ l i e k = true → ∃ e1, k e1 = true ∧ ∀ n, (gtS n).g e1 = if n < i then (gtS n).g e else match l[n - i]? with
    | some v => v
    | none => (gtS n).g e
  | [], i, e, k, h => ⟨e, h, fun n => by simp⟩
  | v :: l, i, e, k, h => by
    unfold argQ at h
    cases hp : ptS i with
    | none => rw [hp] at h; cases h
    | some p =>
      rw [hp] at h
      obtain ⟨e2, h2, h3⟩ := ptS_put hp v e h
      obtain ⟨e1, h4, h5⟩ := argQ_ok l (i + 1) e2 k h2
      refine ⟨e1, h4, fun n => ?_⟩
      rw [h5 n, h3 n]
      by_cases h1 : n < i
      · rw [if_pos (by omega), if_neg (by omega), if_pos h1]
      · by_cases h2 : n = i
        · subst h2
          simp
        · obtain ⟨k, rfl⟩ : ∃ k, n = i + 1 + k := ⟨n - (i + 1), by omega⟩
          rw [if_neg (by omega), if_neg h1, if_neg (by omega)]
          rw [show i + 1 + k - (i + 1) = k by omega, show i + 1 + k - i = k + 1 by omega]
          rfl
theorem argE_eq (l : List AV) (n : Nat) : argE l n = match l[n]? with
    | some v => v
    | none => und := rfl
theorem arg_few {l : List AV} (h : l.length ≤ 8) {k : E → Bool} (hk : k ⟨pk l, l2, l3⟩ = true) : ∃ e, k e = true ∧ RE e (argE l) :=
  ⟨_, hk, fun n => by rw [gt_e8 l n (.inl h)]; rfl⟩
theorem arg0_ok {l : List AV} {k : E → Bool} (h : arg0 l k = true) : ∃ e, k e = true ∧ RE e (argE l) := by
  cases l with
  | nil => exact arg_few (l := []) (by simp) h
  | cons v0 l =>
  change fo1 v0 (fun v0 => arg1 l v0 k) = true at h
  rw [fo1_eq] at h
  cases l with
  | nil => exact arg_few (l := [v0]) (by simp) h
  | cons v1 l =>
  change fo1 v1 (fun v1 => arg2 l v0 v1 k) = true at h
  rw [fo1_eq] at h
  cases l with
  | nil => exact arg_few (l := [v0, v1]) (by simp) h
  | cons v2 l =>
  change fo1 v2 (fun v2 => arg3 l v0 v1 v2 k) = true at h
  rw [fo1_eq] at h
  cases l with
  | nil => exact arg_few (l := [v0, v1, v2]) (by simp) h
  | cons v3 l =>
  change fo1 v3 (fun v3 => arg4 l v0 v1 v2 v3 k) = true at h
  rw [fo1_eq] at h
  cases l with
  | nil => exact arg_few (l := [v0, v1, v2, v3]) (by simp) h
  | cons v4 l =>
  change fo1 v4 (fun v4 => arg5 l v0 v1 v2 v3 v4 k) = true at h
  rw [fo1_eq] at h
  cases l with
  | nil => exact arg_few (l := [v0, v1, v2, v3, v4]) (by simp) h
  | cons v5 l =>
  change fo1 v5 (fun v5 => arg6 l v0 v1 v2 v3 v4 v5 k) = true at h
  rw [fo1_eq] at h
  cases l with
  | nil => exact arg_few (l := [v0, v1, v2, v3, v4, v5]) (by simp) h
  | cons v6 l =>
  change fo1 v6 (fun v6 => arg7 l v0 v1 v2 v3 v4 v5 v6 k) = true at h
  rw [fo1_eq] at h
  cases l with
  | nil => exact arg_few (l := [v0, v1, v2, v3, v4, v5, v6]) (by simp) h
  | cons v7 l =>
  change fo1 v7 (fun v7 => arg8 l v0 v1 v2 v3 v4 v5 v6 v7 k) = true at h
  rw [fo1_eq] at h
  change argQ l 8 ⟨⟨v0, v1, v2, v3, v4, v5, v6, v7⟩, l2, l3⟩ k = true at h
  obtain ⟨e, h1, h2⟩ := argQ_ok l 8 _ k h
  refine ⟨e, h1, fun n => ?_⟩
  rw [h2 n]
  have hb : ∀ n, (gtS n).g ⟨⟨v0, v1, v2, v3, v4, v5, v6, v7⟩, l2, l3⟩ = match [v0, v1, v2, v3, v4, v5, v6, v7][n]? with
    | some v => v
    | none => und := fun n => gt_e8 [v0, v1, v2, v3, v4, v5, v6, v7] n (.inl (by simp))
  rw [argE_eq, hb n]
  by_cases hn : n < 8
  · rw [if_pos hn]
    match n, hn with
    | 0, _ => rfl
    | 1, _ => rfl
    | 2, _ => rfl
    | 3, _ => rfl
    | 4, _ => rfl
    | 5, _ => rfl
    | 6, _ => rfl
    | 7, _ => rfl
  · rw [if_neg hn]
    obtain ⟨q, rfl⟩ : ∃ q, n = q + 8 := ⟨n - 8, by omega⟩
    rw [show q + 8 - 8 = q by omega, List.getElem?_eq_none (l := [v0, v1, v2, v3, v4, v5, v6, v7]) (by simp)]
    rfl
theorem runQ_ok {oq : Nat → List AV → M AV} {os : Nat → List AV → Ev.M AV} (ho : ∀ k l, Ref Eq (oq k l) (os k l)) (X : Nat → Option PF) : ∀ n, RF (runQ oq X n) (run os X n)
  | 0 => fun f l => Ref.no
  | n + 1 => fun f l => by
    have hF := runQ_ok ho X n
    show Ref Eq ((dW oq (X f)).v (runQ oq X n) l) (fnR os X (run os X n) f l)
    unfold fnR
    cases X f with
    | none => exact Ref.no
    | some pf =>
      cases pf with
      | own k => exact ho k l
      | f body res =>
        unfold dW
        dsimp only
        cases hc : clr (keepD body res) (resN res) with
        | false => exact Ref.no
        | true =>
          intro t s k hs hk
          change arg0 l (fun e => (dC (keepD body res) body).v (runQ oq X n) e t (fun e s => (dR res).v e s fun vs s => k (oneR vs) s) fun ex e s => Ex.rec (motive := fun _ => E → St → (AV → St → Bool) → Bool) (fun e s k => (dR res).v e s fun vs s => k (oneR vs) s) (fun _ _ _ _ => false) ex e s k) = true at hk
          obtain ⟨e, hk, hre⟩ := arg0_ok hk
          obtain ⟨e1, t1, y, s1, h1, h2, h3, h4⟩ := dC_ok hF body e (argE l) (fun n _ => hre n) t s _ _ hs hk
          obtain ⟨y1, y2⟩ := y
          have fin : ∀ {y1 : Option Ex}, (coR (run os X n) body (argE l)) s = some ((y1, y2), s1) → (∀ j, y1 ≠ some (.exit j)) → (dR res).v e1 t1 (fun vs s => k (oneR vs) s) = true →
              ∃ a b t' s', walkR (run os X n) body res l s = some (b, s') ∧ a = b ∧ RS t' s' ∧ k a t' = true := fun {y1} h1 hj hk => by
            obtain ⟨vs, vs', t2, s2, g1, g2, g3, g4⟩ := dR_ok h2 res hc t1 s1 _ h3 hk
            subst g2
            refine ⟨_, _, t2, s2, ?_, rfl, g3, g4⟩
            cases y1 with
            | none => simp only [walkR, Ev.M.bind, h1, g1]; rfl
            | some ex =>
              cases ex with
              | ret => simp only [walkR, Ev.M.bind, h1, g1]; rfl
              | exit j => exact absurd rfl (hj j)
          rcases h4 with ⟨rfl, h4⟩ | ⟨ex, rfl, h4⟩
          · exact fin h1 (by simp) h4
          · cases ex with
            | ret => exact fin h1 (by simp) h4
            | exit j => cases h4
theorem rs0 : RS st0 S0 := ⟨rfl, ⟨fun id => by simp [st0, look_h6, S0], fun id b h => by rw [show st0.h = h6 from rfl, look_h6] at h; cases h⟩, rfl, rfl, rfl⟩
theorem ask_ok {oq : Nat → List AV → M AV} {os : Nat → List AV → Ev.M AV} (ho : ∀ k l, Ref Eq (oq k l) (os k l)) {X : Nat → Option PF} {n f : Nat} (h : ask oq X n f = true) : ∃ s', (run os X n).fn f [] S0 = some (.b true, s') := by
  obtain ⟨a, b, t', s', h1, h2, h3, h4⟩ := runQ_ok ho X n f [] st0 S0 _ rs0 h
  subst h2
  cases a <;> simp only [isT] at h4 <;> first | (cases h4; done) | skip
  subst h4
  exact ⟨s', h1⟩
end Kq
end Ev
end Go.Proofs.YthknbcbkibbncaaGreat

/- DERIVED. Calls of numbers alone, answered once by a run of their own: taken whole. -/
set_option linter.unusedVariables false
namespace Go.Proofs.YthknbcbkibbncaaGreat
namespace Ev
open Go.RowKit
def scal (v : AV) : Bool := match v with
  | .b _ => true
  | .i _ _ => true
  | _ => false
section
variable {β β' : Id → CA} {D D' : Id → Prop}
theorem scal_mono {v : AV} {V : Value} (h : scal v = true) (hv : VR β D v V) : VR β' D' v V := by
  cases v <;> first | (cases h; done) | (simp only [VR] at hv ⊢; exact hv)
theorem scals_mono : ∀ {l : List AV} {L : List Value}, l.all scal = true → VRs β D l L → VRs β' D' l L
  | [], _, _, h => by simpa [VRs] using h
  | v :: l, _, ha, h => by
    simp only [VRs] at h ⊢
    obtain ⟨V, Vs, e, h1, h2⟩ := h
    rw [List.all_cons, Bool.and_eq_true] at ha
    exact ⟨V, Vs, e, scal_mono ha.1 h1, scals_mono ha.2 h2⟩
theorem ceqs_same : ∀ {a l : List AV}, ceqs a l = some true → l = a
  | [], [], _ => rfl
  | [], _ :: _, h => by simp [ceqs] at h
  | _ :: _, [], h => by simp [ceqs] at h
  | x :: a, y :: l, h => by
    simp only [ceqs] at h
    cases h1 : ceq x y with
    | none => rw [h1] at h; cases h
    | some r1 =>
      rw [h1] at h
      dsimp only at h
      cases h2 : ceqs a l with
      | none => rw [h2] at h; cases h
      | some r2 =>
        rw [h2] at h
        simp only [Option.some.injEq, Bool.and_eq_true] at h
        obtain ⟨rfl, rfl⟩ := h
        rw [ceqs_same h2]
        congr 1
        unfold ceq at h1
        split at h1
        · rename_i k x k' y
          cases hk : keq k k' with
          | false => rw [hk] at h1; cases h1
          | true =>
            rw [hk] at h1
            have e : k = k' := by cases k <;> cases k' <;> first | rfl | (exact absurd hk (by decide))
            subst e
            simp only [Option.some.injEq] at h1
            congr 1
            cases x <;> cases y <;> simp only [ieq] at h1 <;> first | (cases h1; done) | (rw [Nat.eq_of_beq_eq_true h1])
        · cases h1
theorem Rel.after {B : Nat} {h : Heap} {W w w' : World} (hr : Rel β D B W h w) (hb : Below w.heap.size w w') : Rel β D B W h w' := by
  refine ⟨⟨fun id k hk => ?_, hr.hr.inj, hr.hr.old, Nat.le_trans hr.hr.size hb.size⟩, hr.bel.trans (hb.mono hr.hr.size)⟩
  obtain ⟨h1, h2⟩ := hr.hr.live id k hk
  refine ⟨h1, h2.keep (Ext.refl β D 0) ?_⟩
  obtain ⟨o, ho⟩ := h2.there
  exact hb.block _ (Array.getElem?_eq_some_iff.1 ho).1
end
structure Memo where
  a : List AV
  r : AV
def memoF (t : List Memo) (l : List AV) : M AV := match t with
  | [] => M.no
  | m :: t => match ceqs m.a l with
    | some b => match b with
      | true => M.pure m.r
      | false => memoF t l
    | none => memoF t l
theorem memo_some : ∀ {t : List Memo} {l : List AV} {s s' : S} {v : AV}, memoF t l s = some (v, s') → s' = s ∧ ∃ m ∈ t, l = m.a ∧ v = m.r
  | [], l, s, s', v, h => by simp [memoF, M.no] at h
  | m :: t, l, s, s', v, h => by
    simp only [memoF] at h
    have rest : memoF t l s = some (v, s') → s' = s ∧ ∃ m' ∈ m :: t, l = m'.a ∧ v = m'.r := fun h => by
      obtain ⟨e, m', hm, e1, e2⟩ := memo_some h
      exact ⟨e, m', by simp [hm], e1, e2⟩
    cases hc : ceqs m.a l with
    | none => rw [hc] at h; exact rest h
    | some b =>
      rw [hc] at h
      cases b with
      | false => exact rest h
      | true =>
        obtain ⟨rfl, rfl⟩ := pure_some h
        exact ⟨rfl, m, by simp, ceqs_same hc, rfl⟩
theorem Loc.memoF : ∀ (t : List Memo) (l : List AV), Loc (Ev.memoF t l)
  | [], l => Loc.no
  | m :: t, l => by
    simp only [Ev.memoF]
    cases ceqs m.a l with
    | none => exact Loc.memoF t l
    | some b =>
      cases b with
      | false => exact Loc.memoF t l
      | true => exact Loc.pure _
def MemoOk (own : Nat → List AV → M AV) (X : Nat → Option PF) (f : Nat) (t : List Memo) : Prop := ∀ m ∈ t, scal m.r = true ∧ m.a.all scal = true ∧ ∃ n s', (run own X n).fn f m.a S0 = some (m.r, s')
theorem memo_ok {P : Program} {Y : Ty} {own : Nat → List AV → M AV} {X : Nat → Option PF} (hY : TyOk P Y) (hmix : P.follows .mixedOrders = true) (hown : ∀ k l, Loc (own k l)) (hX : TabOk P Y own X)
    {f : Nat} {t : List Memo} (ht : MemoOk own X f t) {own' : Nat → List AV → M AV} {k : Nat} (hk : own' k = memoF t) : OwnOk P own' k f := by
  intro l s v s' h β D B W w L hL hr hfr
  rw [hk] at h
  obtain ⟨rfl, m, hm, rfl, rfl⟩ := memo_some h
  obtain ⟨h1, h2, n, s1, h3⟩ := ht m hm
  have hL' : VRs (fun _ => ⟨0, 0, 0⟩) (fun _ => False) m.a L := scals_mono h2 hL
  have hc := (run_ok hY hmix hown hX n n (Nat.le_refl _) f m.a S0 _ _ h3 (fun _ => ⟨0, 0, 0⟩) (fun _ => False) w.heap.size w w L hL' (rel_empty w) (fun _ _ _ h => h)).2
  refine hc.mono ?_
  rintro e w' ⟨β', D', V, rfl, hx, hr', hv⟩
  exact ⟨β, D, V, rfl, Ext.refl _ _ _, hr.after hr'.bel, scal_mono h1 hv⟩
namespace Kq
noncomputable def memoQ (t : List Memo) (l : List AV) : M AV := match t with
  | [] => M.no
  | m :: t => match ceqs m.a l with
    | some b => match b with
      | true => M.pure m.r
      | false => memoQ t l
    | none => memoQ t l
theorem Ref.memoQ : ∀ (t : List Memo) (l : List AV), Ref Eq (Kq.memoQ t l) (Ev.memoF t l)
  | [], l => Ref.no
  | m :: t, l => by
    simp only [Kq.memoQ, Ev.memoF]
    cases ceqs m.a l with
    | none => exact Ref.memoQ t l
    | some b =>
      cases b with
      | false => exact Ref.memoQ t l
      | true => exact Ref.ret _
def isR (r v : AV) : Bool := match r with
  | .b x => match v with
    | .b y => match x with
      | true => y
      | false => !y
    | _ => false
  | r => match ceq r v with
    | some b => b
    | none => false
theorem isR_eq {r v : AV} (h : isR r v = true) : v = r := by
  have key : (match ceq r v with | some b => b | none => false) = true → v = r := fun h => by
    cases hc : ceq r v with
    | none => rw [hc] at h; cases h
    | some b =>
      rw [hc] at h
      simp only at h
      subst h
      have : ceqs [r] [v] = some true := by simp [ceqs, hc]
      have := ceqs_same this
      cases this
      rfl
  cases r with
  | b x =>
    cases v with
    | b y =>
      cases x <;> cases y <;> first | rfl | (simp [isR] at h)
    | _ => simp [isR] at h
  | _ => exact key h
noncomputable def askR (own : Nat → List AV → M AV) (X : Nat → Option PF) (n f : Nat) (m : Memo) : Bool := (runQ own X n).fn f m.a st0 fun v _ => isR m.r v
theorem askR_ok {oq : Nat → List AV → M AV} {os : Nat → List AV → Ev.M AV} (ho : ∀ k l, Ref Eq (oq k l) (os k l)) {X : Nat → Option PF} {n f : Nat} {m : Memo} (h : askR oq X n f m = true) : ∃ s', (run os X n).fn f m.a S0 = some (m.r, s') := by
  obtain ⟨a, b, t', s', h1, h2, h3, h4⟩ := runQ_ok ho X n f m.a st0 S0 _ rs0 h
  subst h2
  rw [isR_eq h4] at h1
  exact ⟨s', h1⟩
end Kq
end Ev
end Go.Proofs.YthknbcbkibbncaaGreat
