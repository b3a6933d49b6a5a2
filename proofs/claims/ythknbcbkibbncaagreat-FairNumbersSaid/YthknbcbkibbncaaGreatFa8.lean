/- DERIVED. A region that draws its order: slots and waits, plainly. -/
import Derived.WalkKit
import Derived.Laws.Slices
import Derived.Test.YthknbcbkibbncaaGreatFa2
import Derived.Test.YthknbcbkibbncaaGreatFa6
import Derived.Test.YthknbcbkibbncaaGreatFa7
set_option linter.all false
namespace Go.Proofs.YthknbcbkibbncaaGreat
namespace Ev

theorem arg_congr {x : Arg} {e e' : Env} (h : ∀ t ∈ tmpsA x, e t = e' t) : arg x e = arg x e' := by
  cases x with
  | t n => exact h n (by simp [tmpsA])
  | c v => rfl
theorem args_congr {l : List Arg} {e e' : Env} (h : ∀ t ∈ tmpsAs l, e t = e' t) : args l e = args l e' := by
  unfold args
  refine List.map_congr_left fun x hx => arg_congr fun t ht => h t ?_
  simp only [tmpsAs, List.mem_flatMap]
  exact ⟨x, hx, ht⟩
theorem argO_congr {x : Option Arg} {e e' : Env} (h : ∀ t ∈ tmpsO x, e t = e' t) : argO x e = argO x e' := by
  cases x with
  | none => rfl
  | some x => simp only [argO]; rw [arg_congr h]
theorem fillL_congr {e e' : Env} : ∀ {ps : List Part} {cs : List AV}, (∀ t ∈ ps.flatMap fun p => tmpsA p.x, e t = e' t) → fillL e ps cs = fillL e' ps cs
  | [], _, _ => rfl
  | p :: ps, cs, h => by
    simp only [List.flatMap_cons, List.mem_append] at h
    simp only [fillL]
    rw [arg_congr fun t ht => h t (.inl ht)]
    cases (arg p.x e').cells with
    | none => rfl
    | some l =>
      simp only
      rw [fillL_congr fun t ht => h t (.inr ht)]
theorem poR_congr {o : PO} {F : Fns} {e e' : Env} (h : ∀ t ∈ tmpsP o, e t = e' t) : poR o F e = poR o F e' := by
  cases o <;> simp only [tmpsP, List.mem_append] at h <;> simp only [poR]
  case mv x => rw [arg_congr h]
  case pick c a b => rw [arg_congr fun t ht => h t (.inl ht), arg_congr (x := a) fun t ht => h t (.inr (.inl ht)), arg_congr (x := b) fun t ht => h t (.inr (.inr ht))]
  case box z x => rw [arg_congr h]
  case build cs ps => rw [fillL_congr h]
  case bsl z cs len ps => rw [fillL_congr h]
  case ld1 x => rw [arg_congr h]
  case ldn m x => rw [arg_congr h]
  case st m x y => rw [arg_congr fun t ht => h t (.inl ht), arg_congr (x := y) fun t ht => h t (.inr ht)]
  case nilc x => rw [arg_congr h]
  case bin o x y => rw [arg_congr fun t ht => h t (.inl ht), arg_congr (x := y) fun t ht => h t (.inr ht)]
  case eq k n x y => rw [arg_congr fun t ht => h t (.inl ht), arg_congr (x := y) fun t ht => h t (.inr ht)]
  case un o x => rw [arg_congr h]
  case cvi k x => rw [arg_congr h]
  case cvs x => rw [arg_congr h]
  case cvb x => rw [arg_congr h]
  case cvt x => rw [arg_congr h]
  case cvm x => rw [arg_congr h]
  case mkf f x y => rw [args_congr fun t ht => h t (.inl ht), args_congr (l := y) fun t ht => h t (.inr ht)]
  case mks z cs x y => rw [arg_congr fun t ht => h t (.inl ht), arg_congr (x := y) fun t ht => h t (.inr ht)]
  case sls w x a b c => rw [arg_congr fun t ht => h t (.inl ht), argO_congr (x := a) fun t ht => h t (.inr (.inl ht)), argO_congr (x := b) fun t ht => h t (.inr (.inr (.inl ht))), argO_congr (x := c) fun t ht => h t (.inr (.inr (.inr ht)))]
  case sla w n x a b c => rw [arg_congr fun t ht => h t (.inl ht), argO_congr (x := a) fun t ht => h t (.inr (.inl ht)), argO_congr (x := b) fun t ht => h t (.inr (.inr (.inl ht))), argO_congr (x := c) fun t ht => h t (.inr (.inr (.inr ht)))]
  case slt x a b => rw [arg_congr fun t ht => h t (.inl ht), argO_congr (x := a) fun t ht => h t (.inr (.inl ht)), argO_congr (x := b) fun t ht => h t (.inr (.inr ht))]
  case fad o x => rw [arg_congr h]
  case ixa n w x y => rw [arg_congr fun t ht => h t (.inl ht), arg_congr (x := y) fun t ht => h t (.inr ht)]
  case ixs w x y => rw [arg_congr fun t ht => h t (.inl ht), arg_congr (x := y) fun t ht => h t (.inr ht)]
  case ext x j => rw [arg_congr h]
  case calv f l => rw [arg_congr fun t ht => h t (.inl ht), args_congr fun t ht => h t (.inr ht)]
  case app z w x y => rw [arg_congr fun t ht => h t (.inl ht), arg_congr (x := y) fun t ht => h t (.inr ht)]
  case apz z w cs x y => rw [arg_congr fun t ht => h t (.inl ht), arg_congr (x := y) fun t ht => h t (.inr ht)]
  case cpy w x y => rw [arg_congr fun t ht => h t (.inl ht), arg_congr (x := y) fun t ht => h t (.inr ht)]
  case clr cs x => rw [arg_congr h]
  case len x => rw [arg_congr h]
  case lns x => rw [arg_congr h]
  case cap x => rw [arg_congr h]
  case mm m x l => rw [arg_congr fun t ht => h t (.inl ht), args_congr fun t ht => h t (.inr ht)]
  case lkm q z ok x y => rw [arg_congr fun t ht => h t (.inl ht), arg_congr (x := y) fun t ht => h t (.inr ht)]
  case mup q x y z => rw [arg_congr fun t ht => h t (.inl ht), arg_congr (x := y) fun t ht => h t (.inr (.inl ht)), arg_congr (x := z) fun t ht => h t (.inr (.inr ht))]
  case del q x y => rw [arg_congr fun t ht => h t (.inl ht), arg_congr (x := y) fun t ht => h t (.inr ht)]
  case lnm x => rw [arg_congr h]
  case men q z x y => rw [arg_congr fun t ht => h t (.inl ht), arg_congr (x := y) fun t ht => h t (.inr ht)]
  case mes x y z => rw [arg_congr fun t ht => h t (.inl ht), arg_congr (x := y) fun t ht => h t (.inr (.inl ht)), arg_congr (x := z) fun t ht => h t (.inr (.inr ht))]
  case fld a b c x => rw [arg_congr h]
  case idx a b c x y => rw [arg_congr fun t ht => h t (.inl ht), arg_congr (x := y) fun t ht => h t (.inr ht)]
  case ixt x y => rw [arg_congr fun t ht => h t (.inl ht), arg_congr (x := y) fun t ht => h t (.inr ht)]
  case sap n x => rw [arg_congr h]
theorem psV_congr {o : PS} {F : Fns} {e e' : Env} (h : ∀ t ∈ readsS o, e t = e' t) : psV o F e = psV o F e' := by
  unfold psV
  cases hg : o.g with
  | none =>
    simp only [readsS, hg] at h
    simp only [wanted]
    exact poR_congr h
  | some g =>
    simp only [readsS, hg, List.mem_cons] at h
    have h1 := h g.1 (.inl rfl)
    have h2 : poR o.o F e = poR o.o F e' := poR_congr fun t ht => h t (.inr ht)
    simp only [wanted]
    rw [h1, h2]

theorem hits_no {a b : List Rng} (h : hits a b = false) {id : Id} {j : Nat} (ha : cov a id j) (hb : cov b id j) : False := by
  obtain ⟨r, hr, e1, e2, e3⟩ := ha
  obtain ⟨r', hr', f1, f2, f3⟩ := hb
  have : hits a b = true := by
    unfold hits
    rw [List.any_eq_true]
    refine ⟨r, hr, ?_⟩
    rw [List.any_eq_true]
    refine ⟨r', hr', ?_⟩
    unfold hit
    rw [e1, f1]
    simp only [Bool.and_eq_true]
    refine ⟨by simp, ?_, ?_⟩
    · exact Nat.ble_eq_true_of_le (by omega)
    · exact Nat.ble_eq_true_of_le (by omega)
  rw [h] at this
  cases this
theorem clash_no {m : Nat} {b a : Ft} (h : clash m b a = false) : Nat.testBit m a.i = true ∨ (∀ id j, cov a.w id j → ¬ cov b.w id j) ∧ (∀ id j, cov a.w id j → ¬ cov b.r id j) ∧ (∀ id j, cov a.r id j → ¬ cov b.w id j) := by
  unfold clash at h
  cases ht : Nat.testBit m a.i
  · right
    rw [ht] at h
    simp only [Bool.or_eq_false_iff] at h
    exact ⟨fun id j x y => hits_no h.1 x y, fun id j x y => hits_no h.2.1 x y, fun id j x y => hits_no h.2.2 x y⟩
  · exact .inl rfl

/-- a region's run in its own order, step by step -/
structure Steps (F : Fns) (l : List PS) (ms : List Nat) (i : Nat) (E : Nat → Env) (H : Nat → Heap) (n : Nat → Id) (v : Nat → AV) (R W : Nat → List Rng) : Prop where
  run : ∀ k o, l[k]? = some o → psV o F (E k) ⟨true, H k, n k, [], []⟩ = some (v k, ⟨true, H (k + 1), n (k + 1), R k, W k⟩) ∧ E (k + 1) = putO o.d (v k) (E k)
  len : ms.length ≥ l.length
  calm : ∀ k m, k < l.length → ms[k]? = some m → ∀ k', k' < k → clash m ⟨i + k, R k, W k⟩ ⟨i + k', R k', W k'⟩ = false
theorem apart_some {α : Type} {m : M α} {s s' : S} {x : α × List Rng × List Rng} (h : M.apart m s = some (x, s')) : ∃ t, m ⟨true, s.h, s.n, [], []⟩ = some (x.1, t) ∧ x.2.1 = t.r ∧ x.2.2 = t.w ∧ s'.h = t.h ∧ s'.n = t.n ∧ s'.tr = s.tr := by
  unfold M.apart at h
  cases hm : m ⟨true, s.h, s.n, [], []⟩ with
  | none => rw [hm] at h; cases h
  | some q =>
    obtain ⟨y, t⟩ := q
    rw [hm] at h
    simp only at h
    cases htr : s.tr <;> rw [htr] at h <;> simp only at h <;> cases h
    · exact ⟨t, rfl, rfl, rfl, rfl, rfl, rfl⟩
    · exact ⟨t, rfl, rfl, rfl, rfl, rfl, rfl⟩
theorem drw_steps {F : Fns} (hF : LocF F) : ∀ (l : List PS) (ms : List Nat) (acc : List Ft) (i : Nat) (e : Env) (s : S) (e' : Env) (s' : S), drwR F l ms acc i e s = some (e', s') →
    ∃ E H n v R W, Steps F l ms i E H n v R W ∧ E 0 = e ∧ H 0 = s.h ∧ n 0 = s.n ∧ E l.length = e' ∧ H l.length = s'.h ∧ n l.length = s'.n ∧ (∀ k m, k < l.length → ms[k]? = some m → ∀ a ∈ acc, clash m ⟨i + k, R k, W k⟩ a = false)
  | [], ms, acc, i, e, s, e', s', h => by
    simp only [drwR, M.pure, Option.some.injEq, Prod.mk.injEq] at h
    obtain ⟨rfl, rfl⟩ := h
    exact ⟨fun _ => e, fun _ => s.h, fun _ => s.n, fun _ => und, fun _ => [], fun _ => [], ⟨fun k o h => by simp at h, by simp, fun k m hk => by simp at hk⟩, rfl, rfl, rfl, rfl, rfl, rfl, fun k m hk => by simp at hk⟩
  | o :: l, [], acc, i, e, s, e', s', h => by simp [drwR, M.no] at h
  | o :: l, m :: ms, acc, i, e, s, e', s', h => by
    simp only [drwR, M.bind] at h
    cases hap : M.apart (psR o F e) s with
    | none => rw [hap] at h; cases h
    | some xu =>
      obtain ⟨x, u⟩ := xu
      rw [hap] at h
      simp only at h
      cases hcl : acc.any (clash m ⟨i, x.2.1, x.2.2⟩) <;> rw [hcl] at h <;> simp only at h
      · obtain ⟨t, t1, t2, t3, t4, t5, t6⟩ := apart_some hap
        simp only [psR, M.bind] at t1
        cases hps : psV o F e ⟨true, s.h, s.n, [], []⟩ with
        | none => rw [hps] at t1; cases t1
        | some vu =>
          obtain ⟨v0, u0⟩ := vu
          rw [hps] at t1
          simp only [M.pure, Option.some.injEq, Prod.mk.injEq] at t1
          obtain ⟨t1, rfl⟩ := t1
          obtain ⟨b1, b2, b3, _⟩ := Loc.psV hF o e ⟨true, s.h, s.n, [], []⟩ v0 u0 hps
          obtain ⟨E, H, n, v, R, W, st, c1, c2, c3, c4, c5, c6, c7⟩ := drw_steps hF l ms (⟨i, x.2.1, x.2.2⟩ :: acc) (i + 1) x.1 u e' s' h
          have cons : ∀ {γ : Type} (y : γ) (g : Nat → γ) (k : Nat), (fun k => match k with | 0 => y | k + 1 => g k) (k + 1) = g k := fun _ _ _ => rfl
          refine ⟨fun k => match k with | 0 => e | k + 1 => E k, fun k => match k with | 0 => s.h | k + 1 => H k, fun k => match k with | 0 => s.n | k + 1 => n k, fun k => match k with | 0 => v0 | k + 1 => v k,
            fun k => match k with | 0 => x.2.1 | k + 1 => R k, fun k => match k with | 0 => x.2.2 | k + 1 => W k, ⟨fun k o' ho' => ?_, ?_, fun k m' hk hm' k' hk' => ?_⟩, rfl, rfl, rfl, c4, c5, c6, fun k m' hk hm' a ha => ?_⟩
          · cases k with
            | zero =>
              simp only [List.getElem?_cons_zero, Option.some.injEq] at ho'
              subst ho'
              refine ⟨?_, ?_⟩
              · show psV o F e ⟨true, s.h, s.n, [], []⟩ = some (v0, ⟨true, H 0, n 0, x.2.1, x.2.2⟩)
                rw [hps, c2, c3, t4, t5, t2, t3]
                obtain ⟨utr, uh, un, ur, uw⟩ := u0
                simp only at b1
                subst b1
                rfl
              · show E 0 = putO o.d v0 e
                rw [c1, t1]
            | succ k => exact st.run k o' (by simpa using ho')
          · have := st.len; simp; omega
          · cases k with
            | zero => omega
            | succ k =>
              simp only [List.getElem?_cons_succ] at hm'
              simp only [List.length_cons, Nat.add_lt_add_iff_right] at hk
              cases k' with
              | zero =>
                have := c7 k m' hk hm' ⟨i, x.2.1, x.2.2⟩ (by simp)
                rw [show i + (k + 1) = i + 1 + k by omega]
                exact this
              | succ k' =>
                have := st.calm k m' hk hm' k' (by omega)
                rw [show i + (k + 1) = i + 1 + k by omega, show i + (k' + 1) = i + 1 + k' by omega]
                exact this
          · cases k with
            | zero =>
              simp only [List.getElem?_cons_zero, Option.some.injEq] at hm'
              subst hm'
              rw [List.any_eq_false] at hcl
              simpa using hcl a ha
            | succ k =>
              simp only [List.getElem?_cons_succ] at hm'
              simp only [List.length_cons, Nat.add_lt_add_iff_right] at hk
              have := c7 k m' hk hm' a (by simp [ha])
              rw [show i + (k + 1) = i + 1 + k by omega]
              exact this
      · simp [M.no] at h

theorem ancL_spec (acc : List Nat) : ∀ (l : List Edge) (p : Nat), Nat.testBit (ancL acc l) p = true → ∃ ed ∈ l, Region.binds .any ed = true ∧ ed.on < acc.length ∧ (p = ed.on ∨ Nat.testBit (acc[acc.length - 1 - ed.on]?.getD 0) p = true)
  | [], p, h => by simp [ancL] at h
  | ed :: l, p, h => by
    simp only [ancL] at h
    have rest : Nat.testBit (ancL acc l) p = true → ∃ ed' ∈ ed :: l, Region.binds .any ed' = true ∧ ed'.on < acc.length ∧ (p = ed'.on ∨ Nat.testBit (acc[acc.length - 1 - ed'.on]?.getD 0) p = true) := fun h => by
      obtain ⟨ed', h1, h2⟩ := ancL_spec acc l p h
      exact ⟨ed', by simp [h1], h2⟩
    cases hb : (Region.binds .any ed && Nat.blt ed.on acc.length) <;> rw [hb] at h <;> simp only at h
    · exact rest h
    · simp only [Bool.and_eq_true] at hb
      have h' : (Nat.testBit (ancL acc l) p || (Nat.testBit (1 <<< ed.on) p || Nat.testBit (acc[acc.length - 1 - ed.on]?.getD 0) p)) = true := by
        rw [← Nat.testBit_or, ← Nat.testBit_or]
        exact h
      simp only [Bool.or_eq_true] at h'
      rcases h' with h' | h' | h'
      · exact rest h'
      · refine ⟨ed, by simp, hb.1, Nat.le_of_ble_eq_true hb.2, .inl ?_⟩
        rw [Nat.one_shiftLeft, Nat.testBit_two_pow] at h'
        simp at h'
        exact h'.symm
      · exact ⟨ed, by simp, hb.1, Nat.le_of_ble_eq_true hb.2, .inr h'⟩
theorem anc_length : ∀ (l : List Oper) (acc : List Nat), (anc acc l).length = acc.length + l.length
  | [], acc => by simp [anc]
  | o :: l, acc => by simp [anc, anc_length l]; omega
theorem anc_keep : ∀ (l : List Oper) (acc : List Nat) (k : Nat), k < acc.length → (anc acc l)[k]? = acc[acc.length - 1 - k]?
  | [], acc, k, h => by simp only [anc]; rw [List.getElem?_reverse h]
  | o :: l, acc, k, h => by
    simp only [anc]
    rw [anc_keep l _ k (by simp; omega)]
    simp only [List.length_cons]
    rw [show acc.length + 1 - 1 - k = (acc.length - 1 - k) + 1 by omega, List.getElem?_cons_succ]
theorem anc_spec : ∀ (l : List Oper) (acc : List Nat) (k : Nat) (o : Oper), l[k]? = some o → ∀ p, Nat.testBit ((anc acc l)[acc.length + k]?.getD 0) p = true →
    ∃ ed ∈ o.after.toList, Region.binds .any ed = true ∧ ed.on < acc.length + k ∧ (p = ed.on ∨ Nat.testBit ((anc acc l)[ed.on]?.getD 0) p = true)
  | [], acc, k, o, ho, p, h => by simp at ho
  | o0 :: l, acc, k, o, ho, p, h => by
    simp only [anc] at h ⊢
    cases k with
    | zero =>
      simp only [List.getElem?_cons_zero, Option.some.injEq] at ho
      subst ho
      rw [Nat.add_zero, anc_keep l _ acc.length (by simp)] at h
      simp only [List.length_cons, Nat.add_sub_cancel, Nat.sub_self, List.getElem?_cons_zero, Option.getD_some] at h
      obtain ⟨ed, h1, h2, h3, h4⟩ := ancL_spec acc o0.after.toList p h
      refine ⟨ed, h1, h2, by omega, h4.imp id fun h4 => ?_⟩
      rw [anc_keep l _ ed.on (by simp; omega)]
      simp only [List.length_cons]
      rw [show acc.length + 1 - 1 - ed.on = (acc.length - 1 - ed.on) + 1 by omega, List.getElem?_cons_succ]
      exact h4
    | succ k =>
      simp only [List.getElem?_cons_succ] at ho
      obtain ⟨ed, h1, h2, h3, h4⟩ := anc_spec l (ancL acc o0.after.toList :: acc) k o ho p (by
        simp only [List.length_cons]
        rw [show acc.length + 1 + k = acc.length + (k + 1) by omega]
        exact h)
      simp only [List.length_cons] at h3
      exact ⟨ed, h1, h2, by omega, h4⟩
theorem back_spec : ∀ (l : List Oper) (i k : Nat) (o : Oper), backOk i l = true → l[k]? = some o → ∀ ed ∈ o.after, Region.binds .any ed = true → ed.on < i + k
  | [], i, k, o, h, ho => by simp at ho
  | o0 :: l, i, k, o, h, ho => by
    simp only [backOk, Bool.and_eq_true] at h
    cases k with
    | zero =>
      simp only [List.getElem?_cons_zero, Option.some.injEq] at ho
      subst ho
      intro ed hed hb
      have := List.all_eq_true.1 h.1 ed (by simpa using hed)
      simp only [Bool.or_eq_true, Bool.not_eq_true'] at this
      rcases this with h' | h'
      · rw [hb] at h'; cases h'
      · exact Nat.le_of_ble_eq_true h'
    | succ k =>
      simp only [List.getElem?_cons_succ] at ho
      intro ed hed hb
      have := back_spec l (i + 1) k o h.2 ho ed hed hb
      omega
/-- the last of those below n of which p is said, and one more; 0 where there is none -/
theorem last_of (p : Nat → Prop) : ∀ n : Nat, ∃ m, m ≤ n ∧ (m = 0 ∨ p (m - 1)) ∧ ∀ k, k < n → p k → k < m
  | 0 => ⟨0, Nat.le_refl _, .inl rfl, fun k h => by omega⟩
  | n + 1 => by
    obtain ⟨m, h1, h2, h3⟩ := last_of p n
    by_cases hp : p n
    · exact ⟨n + 1, Nat.le_refl _, .inr (by simpa using hp), fun k hk _ => by omega⟩
    · refine ⟨m, by omega, h2, fun k hk hpk => ?_⟩
      by_cases hkn : k = n
      · subst hkn; exact absurd hpk hp
      · exact h3 k (by omega) hpk
theorem slots_spec {l : List PS} {ms : List Nat} (h : slotsOk l ms = true) {i j : Nat} {a b : PS} (hij : i < j) (ha : l[i]? = some a) (hb : l[j]? = some b) (ht : Nat.testBit (ms[j]?.getD 0) i = false) : apartS a b = true ∧ apartS b a = true := by
  have hj : j < l.length := (List.getElem?_eq_some_iff.1 hb).1
  unfold slotsOk at h
  rw [List.all_eq_true] at h
  have h1 := h j (by simp [hj])
  rw [List.all_eq_true] at h1
  have h2 := h1 i (by simp [hij])
  rw [ht, ha, hb] at h2
  simp only [Bool.false_or, Bool.and_eq_true] at h2
  exact h2
theorem apartS_spec {a b : PS} (h : apartS a b = true) {d : Nat} (hd : a.d = some d) : d ∉ readsS b ∧ b.d ≠ some d := by
  unfold apartS at h
  rw [hd] at h
  simp only [Bool.and_eq_true, Bool.not_eq_true'] at h
  refine ⟨fun hm => ?_, fun hb => ?_⟩
  · have := h.1
    simp [hm] at this
  · have := h.2
    rw [hb] at this
    simp at this
end Ev
end Go.Proofs.YthknbcbkibbncaaGreat

/- DERIVED. The evaluator's operations against the model's: the ground. -/
namespace Go.Proofs.YthknbcbkibbncaaGreat
namespace Ev
open Go.RowKit

/-- the types' tables agree -/
structure TyOk (P : Program) (Y0 : Ty) : Prop where
  t : ∀ t i, Y0.t t = some i → P.info? t = some i
  q : ∀ t, Y0.q t = true → ∀ (op : BinOp) (ng : Bool), (op = .eql ∧ ng = false ∨ op = .neq ∧ ng = true) → ∀ (β : Id → CA) (D : Id → Prop) (xs ys : List AV) (X Y : List Value) (r : Bool), VRs β D xs X → VRs β D ys Y → sizeT Y0 t = some xs.length → ceqs xs ys = some r →
    ∀ (x y : Operand) (w : World), (do eqGuard op t x y (.agg X.toArray) (.agg Y.toArray); binOp op t (.agg X.toArray) (.agg Y.toArray) : Sem Value).run P w = .ok (.bool (ng != r)) w

section
variable {P : Program} {Y : Ty} (hY : TyOk P Y)
include hY

theorem under_ok {t : TypeId} {d : TypeDesc} (h : under Y t = some d) : P.underlying t = some d := by
  unfold under at h
  rw [Option.bind_eq_some_iff] at h
  obtain ⟨i, hi, hd⟩ := h
  have hp := hY.t t i hi
  unfold Program.underlying
  rw [hp]
  unfold descT at hd
  split at hd
  · rename_i n u he
    rw [Option.bind_eq_some_iff] at hd
    obtain ⟨j, hj, hd⟩ := hd
    cases hd
    cases i
    simp only at he
    subst he
    simp [hY.t u j hj]
  · rename_i hn
    cases hd
    cases i with
    | mk desc =>
      cases desc <;> first | rfl | exact absurd rfl (hn _ _)
theorem size_ok {t : TypeId} {m : Nat} (h : sizeT Y t = some m) (w : World) : (sizeOf t).run P w = .ok m w := by
  unfold sizeT at h
  rw [Option.bind_eq_some_iff] at h
  obtain ⟨i, hi, hm⟩ := h
  cases hm
  simp [sizeOf, typeInfo, hY.t t i hi]
theorem size_info {t : TypeId} {m : Nat} (h : sizeT Y t = some m) : (P.info? t).map (·.size) = some m := by
  unfold sizeT at h
  rw [Option.bind_eq_some_iff] at h
  obtain ⟨i, hi, hm⟩ := h
  cases hm
  simp [hY.t t i hi]
theorem elemS_ok {t el : TypeId} (h : elemS Y t = some el) : P.underlying t = some (.slice el) := by
  unfold elemS at h
  rw [Option.bind_eq_some_iff] at h
  obtain ⟨d, hd, he⟩ := h
  have := under_ok hY hd
  cases d <;> simp only [sliceD] at he <;> cases he
  exact this
end

theorem ofC_ok {v : Value} {a : AV} (h : ofC v = some a) (β : Id → CA) (D : Id → Prop) : VR β D a v ∧ a.one = true ∧ a.cells = some [a] ∧ v.cells = #[v] := by
  unfold ofC at h
  split at h <;> cases h <;> simp [VR, AV.one, AV.cells, Value.cells]
  rename_i x
  refine ⟨?_, fun b _ => b.toNat_lt⟩
  have e : (UInt8.ofNat ∘ fun b : UInt8 => b.toNat) = id := by funext b; simp
  rw [e]
  simp
theorem ofCs_ok : ∀ {l : List Value} {as : List AV}, ofCs l = some as → ∀ (β : Id → CA) (D : Id → Prop), VRs β D as l ∧ ∀ x ∈ as, x.one = true
  | [], as, h, β, D => by simp only [ofCs] at h; cases h; exact ⟨VRs.nil, by simp⟩
  | v :: l, as, h, β, D => by
    simp only [ofCs, Option.bind_eq_some_iff] at h
    obtain ⟨a, ha, bs, hb, h⟩ := h
    cases h
    have h1 := ofC_ok ha β D
    have h2 := ofCs_ok hb β D
    exact ⟨VRs.cons h1.1 h2.1, by simp [h1.2.1]; exact h2.2⟩
theorem ofV_ok {v : Value} {a : AV} (h : ofV v = some a) (β : Id → CA) (D : Id → Prop) : VR β D a v := by
  unfold ofV at h
  split at h
  · rw [Option.bind_eq_some_iff] at h
    obtain ⟨l, hl, h⟩ := h
    cases h
    have := ofCs_ok hl β D
    simp only [VR]
    exact ⟨_, by simp, this⟩
  · split at h
    · rename_i vs he
      cases h
      simp only [VR]
      exact ⟨[], by simpa using he, VRs.nil⟩
    · cases h
  · exact (ofC_ok h β D).1

section
variable {β : Id → CA} {D : Id → Prop}
/-- A value's cells. -/
theorem VR.cells {a : AV} {V : Value} (h : VR β D a V) {l : List AV} (hl : a.cells = some l) : VRs β D l V.cells.toList ∧ ∀ x ∈ l, x.one = true := by
  cases a with
  | ag xs =>
    simp only [AV.cells] at hl
    cases hl
    simp only [VR] at h
    obtain ⟨C, rfl, h1, h2⟩ := h
    exact ⟨by simpa [Value.cells] using h1, h2⟩
  | tu xs => simp [AV.cells] at hl
  | _ =>
    all_goals
      simp only [AV.cells] at hl
      cases hl
      have hone : V.oneCell' = true := h.one rfl
      have hc : V.cells = #[V] := by cases V <;> first | rfl | cases hone
      rw [hc]
      exact ⟨VRs.cons h VRs.nil, by simp [AV.one]⟩
theorem VR.und : VR β D und undef := by
  simp only [Ev.und, VR]
  exact ⟨[], rfl, VRs.nil⟩
/-- A bool is of a bool. -/
theorem VR.bool {v : AV} {t : Bool} (h : VR β D v (.bool t)) : v = .b t := by
  cases v <;> simp [VR] at h ⊢
  exact h.symm
end

/-- the slots -/
structure ER (β : Id → CA) (D : Id → Prop) (N : Nat) (e : Env) (a : Act) : Prop where
  size : N ≤ a.tmps.size
  at_ : ∀ t, VR β D (e t) (a.tmps.getD t undef)
  defers : a.defers = []
structure Rel (β : Id → CA) (D : Id → Prop) (B : Nat) (W : World) (h : Heap) (w : World) : Prop where
  hr : HR β D B h w
  bel : Below B W w
def Fresh (D : Id → Prop) (n n' : Nat) : Prop := ∀ id : Id, n ≤ id.num → id.num < n' → ¬ D id
/-- what comes of it: a value, and memory, related -/
def Gives (P : Program) (β : Id → CA) (D : Id → Prop) (B : Nat) (W : World) (s s' : S) (v : AV) (m : Sem Value) (w : World) : Prop :=
  ∃ β' D' w' V, Ext β D β' D' s.n.num s'.n.num ∧ Rel β' D' B W s'.h w' ∧ VR β' D' v V ∧ m.run P w = .ok V w'

section
variable {P : Program} {Y : Ty} {β : Id → CA} {D : Id → Prop} {B N : Nat} {W w : World} {s s' : S} {e : Env} {a : Act}

theorem ER.mono {β' : Id → CA} {D' : Id → Prop} {n n' : Nat} (hx : Ext β D β' D' n n') (he : ER β D N e a) : ER β' D' N e a := ⟨he.size, fun t => VR.mono hx _ _ (he.at_ t), he.defers⟩
theorem ER.put (he : ER β D N e a) {d : Option Nat} (hd : dstOk N d = true) {v : AV} {V : Value} (hv : VR β D v V) : ER β D N (putO d v e) (a.put d V) := by
  cases d with
  | none => exact he
  | some d =>
    simp only [dstOk] at hd
    have hd' : d < N := Nat.le_of_ble_eq_true hd
    refine ⟨by simpa [Act.put] using he.size, fun t => ?_, he.defers⟩
    simp only [putO, Act.put]
    by_cases ht : t = d
    · subst ht
      rw [if_pos rfl, Array.getD_eq_getD_getElem?, Array.getElem?_setIfInBounds, if_pos rfl, if_pos (Nat.lt_of_lt_of_le hd' he.size)]
      exact hv
    · rw [if_neg ht, Array.getD_eq_getD_getElem?, Array.getElem?_setIfInBounds, if_neg (fun e => ht e.symm), ← Array.getD_eq_getD_getElem?]
      exact he.at_ t

theorem arg_ok (he : ER β D N e a) {x : Operand} {y : Arg} (h : cA x = some y) : VR β D (arg y e) (a.eval x) := by
  cases x with
  | tmp t => simp only [cA] at h; cases h; exact he.at_ t
  | const v =>
    simp only [cA, Option.bind_eq_some_iff] at h
    obtain ⟨b, hb, h⟩ := h
    cases h
    exact ofV_ok hb β D
  | func f =>
    simp only [cA] at h
    cases h
    simp only [arg, VR, Act.eval]
    exact ⟨[], [], rfl, VRs.nil, VRs.nil⟩
  | global g => simp [cA] at h
theorem args_ok (he : ER β D N e a) : ∀ {xs : List Operand} {ys : List Arg}, cAs xs = some ys → VRs β D (args ys e) (xs.map a.eval)
  | [], ys, h => by simp only [cAs] at h; cases h; exact VRs.nil
  | x :: xs, ys, h => by
    simp only [cAs, Option.bind_eq_some_iff] at h
    obtain ⟨b, hb, bs, hbs, h⟩ := h
    cases h
    exact VRs.cons (arg_ok he hb) (args_ok he hbs)

/-- Nothing happens. -/
theorem Gives.same (hr : Rel β D B W s.h w) {v : AV} {V : Value} (hv : VR β D v V) {m : Sem Value} (hm : m.run P w = .ok V w) : Gives P β D B W s s v m w :=
  ⟨β, D, w, V, Ext.refl _ _ _, hr, hv, hm⟩

theorem pure_some {α : Type} {x y : α} {t : S} (h : M.pure x s = some (y, t)) : y = x ∧ t = s := by
  simp only [M.pure] at h
  cases h
  exact ⟨rfl, rfl⟩
theorem bind_some {α γ : Type} {m : M α} {f : α → M γ} {y : γ} {t : S} (h : M.bind m f s = some (y, t)) : ∃ x u, m s = some (x, u) ∧ f x u = some (y, t) := by
  simp only [M.bind] at h
  split at h
  · cases h
  · rename_i x u hx
    exact ⟨x, u, hx, h⟩
theorem ofO_some {α γ : Type} {o : Option α} {f : α → M γ} {y : γ} {t : S} (h : M.ofO o f s = some (y, t)) : ∃ x, o = some x ∧ f x s = some (y, t) := by
  cases o with
  | none => simp [M.ofO, M.no] at h
  | some x => exact ⟨x, rfl, h⟩
theorem ifB_some {α : Type} {b : Bool} {m : M α} {y : α} {t : S} (h : M.ifB b m s = some (y, t)) : b = true ∧ m s = some (y, t) := by
  cases b with
  | false => simp [M.ifB, M.no] at h
  | true => exact ⟨rfl, h⟩
theorem no_some {α : Type} {y : α} {t : S} (h : M.no s = some (y, t)) : False := by simp [M.no] at h
theorem logR_h (s : S) (id : Id) (lo m : Nat) : (M.logR s id lo m).h = s.h ∧ (M.logR s id lo m).n = s.n := by unfold M.logR; split <;> exact ⟨rfl, rfl⟩
theorem logW_h (s : S) (id : Id) (lo m : Nat) : (M.logW s id lo m).h = s.h ∧ (M.logW s id lo m).n = s.n := by unfold M.logW; split <;> exact ⟨rfl, rfl⟩

theorem rd_ok (hr : HR β D B s.h w) {id : Id} {lo m : Nat} {l : List AV} (h : M.rd id lo m s = some (l, s')) :
    s'.h = s.h ∧ s'.n = s.n ∧ l.length = m ∧ ∃ Vs, VRs β D l Vs ∧ Vs.length = m ∧ (∀ j V, Vs[j]? = some V → w.cell? ⟨(β id).blk, (β id).base + lo + j, none⟩ = some V) ∧ (∀ V ∈ Vs, V.oneCell' = true) ∧ ∀ v ∈ l, v.one = true := by
  unfold M.rd at h
  cases h0 : Nat.beq m 0 <;> rw [h0] at h <;> simp only at h
  rotate_left
  · obtain ⟨rfl, rfl⟩ := pure_some h
    obtain rfl : m = 0 := Nat.eq_of_beq_eq_true h0
    exact ⟨rfl, rfl, rfl, [], VRs.nil, rfl, by simp, by simp, by simp⟩
  · split at h
    · cases h
    · rename_i k hk
      split at h
      · rename_i hle
        have hle' : lo + m ≤ k.c.length := Nat.le_of_ble_eq_true hle
        cases h
        obtain ⟨h1, h2⟩ := logR_h s id lo m
        have hm0 : m ≠ 0 := fun e => by subst e; simp at h0
        obtain ⟨Vs, g1, g2, g3, g4, g5⟩ := hr.read hk (hr.notMap hk (by omega)) lo m hle'
        refine ⟨h1, h2, ?_, Vs, g1, g2, g3, g4, g5⟩
        rw [List.length_take, List.length_drop]; omega
      · cases h
theorem wr_ok (hr : HR β D B s.h w) {id : Id} {lo : Nat} {l : List AV} {Vs : List Value} (hl : VRs β D l Vs) (h1 : ∀ v ∈ l, v.one = true) {u : Unit} (h : M.wr id lo l s = some (u, s')) :
    s'.n = s.n ∧ HR β D B s'.h (w.setCells (β id).blk ((β id).base + lo) Vs) ∧ (D id ∨ Vs = []) ∧
      (storeCells ⟨(β id).blk, (β id).base + lo, none⟩ Vs).run P w = .ok () (w.setCells (β id).blk ((β id).base + lo) Vs) := by
  unfold M.wr at h
  cases h0 : l.isEmpty <;> rw [h0] at h <;> simp only at h
  rotate_left
  · obtain ⟨_, rfl⟩ := pure_some h
    obtain rfl : l = [] := by simpa using h0
    simp only [VRs] at hl
    subst hl
    exact ⟨rfl, hr, .inr rfl, rfl⟩
  · split at h
    · cases h
    · rename_i k hk
      split at h
      · rename_i hle
        have hle' : lo + l.length ≤ k.c.length := Nat.le_of_ble_eq_true hle
        cases h
        obtain ⟨g1, g2⟩ := logW_h ⟨s.tr, Heap.put s.h id (some ⟨k.z, k.c.take lo ++ (l ++ k.c.drop (lo + l.length))⟩), s.n, s.r, s.w⟩ id lo l.length
        have hl0 : 0 < l.length := by cases l with
          | nil => simp at h0
          | cons v l => simp
        have hz0 := hr.notMap hk (by omega)
        obtain ⟨hd, c, el, fz, hb, hs, hf, hc, hzk⟩ := hr.cells hk hz0
        have hcf := hc.fit
        have hone : ∀ V ∈ Vs, V.oneCell' = true := fun V hV => by
          obtain ⟨j, hj⟩ := List.getElem?_of_mem hV
          obtain ⟨x, hx, hv⟩ := hl.back j V hj
          exact hv.one (h1 x (List.mem_of_getElem? hx))
        have hst := run_storeCells_cells (P := P) (β id).blk ((β id).base + lo) Vs 0 w
          (fun j hj => (hr.there hk hz0 _ (by rw [hl.length] at hj; omega)).1) (fun j hj => (hr.there hk hz0 _ (by rw [hl.length] at hj; omega)).2) hone
        refine ⟨g2, ?_, .inl hd, by simpa using hst⟩
        rw [g1]
        exact hr.write hk hz0 lo hl h1 hle'
      · cases h
theorem new_ok (hr : HR β D B s.h w) {z : Zf} {l : List AV} {id : Id} (h : M.new z l s = some (id, s')) :
    id = s.n ∧ s'.n.num = s.n.num + 1 ∧ s'.h = Heap.put s.h s.n (some ⟨z, l⟩) := by
  unfold M.new at h
  split at h
  · cases h
  · rename_i n hn
    cases h
    obtain ⟨g1, g2⟩ := logW_h ⟨s.tr, Heap.put s.h s.n (some ⟨z, l⟩), n, s.r, s.w⟩ s.n 0 (l.length + 1)
    exact ⟨rfl, by rw [g2]; exact Id.inc_num hn, g1⟩
theorem shared_ok {id : Id} {z : Zf} (h : M.shared id s = some (z, s')) : s'.h = s.h ∧ s'.n = s.n ∧ ∃ k, s.h id = some k ∧ k.z = z ∧ k.z.m = none := by
  unfold M.shared at h
  split at h
  · cases h
  · rename_i k hk
    split at h
    · cases h
    · rename_i hm
      cases h
      obtain ⟨g1, g2⟩ := logR_h s id k.c.length 1
      exact ⟨g1, g2, k, hk, rfl, hm⟩
theorem ends_ok {id : Id} {z : Zf × Nat} (h : M.ends id s = some (z, s')) : s'.h = s.h ∧ s'.n = s.n ∧ ∃ k, s.h id = some k ∧ k.z = z.1 ∧ k.c.length = z.2 ∧ k.z.m = none := by
  unfold M.ends at h
  split at h
  · cases h
  · rename_i k hk
    split at h
    · cases h
    · rename_i hm
      cases h
      obtain ⟨g1, g2⟩ := logR_h s id k.c.length 1
      exact ⟨g1, g2, k, hk, rfl, rfl, hm⟩

/-- A new block of the model's, and ours. -/
theorem Gives.fresh (hr : Rel β D B W s.h w) {z : Zf} {l : List AV} {id : Id} (h : M.new z l s = some (id, s')) (hf : Fresh D s.n.num s'.n.num) {wd : World} (hz0 : z.m = none) (hw : wd = w ∨ wd = w.drew) (c : Array Value) (el : TypeId) (fz : Nat × Nat) (hfz : fzok z.s fz c.size) (hc : Cells β D c 0 l) (hzn : z.t = true → l.length = c.size)
    {v : AV} {V : Value} {m : Sem Value} (hm : m.run P w = .ok V (wd.alloc (.cells c el fz))) (hv : VR (named β s.n ⟨w.heap.size, 0, c.size⟩) (fun j => D j ∨ j = s.n) v V) : Gives P β D B W s s' v m w := by
  obtain ⟨rfl, hn, hh⟩ := new_ok hr.hr h
  have hd : ¬ D s.n := hf s.n (Nat.le_refl _) (by omega)
  have hrd : HR β D B s.h wd := by rcases hw with rfl | rfl; exact hr.hr; exact Ext.drew_heap hr.hr rfl
  have hsz : wd.heap.size = w.heap.size := by rcases hw with rfl | rfl <;> rfl
  have hbd : Below B W wd := by rcases hw with rfl | rfl; exact hr.bel; exact hr.bel.drew
  refine ⟨_, _, _, V, ?_, ⟨?_, hbd.alloc (by rw [hsz]; exact hr.hr.size) _⟩, hv, hm⟩
  · rw [hn]; exact named_ext β _ hd
  · rw [hh]
    have := hrd.fresh hd z hz0 c el fz hfz hc hzn
    rw [hsz] at this
    exact this
end
end Ev
end Go.Proofs.YthknbcbkibbncaaGreat

/- DERIVED. Numbers of a kind: the evaluator's wrapping is the model's. -/
namespace Go.Proofs.YthknbcbkibbncaaGreat
namespace Ev

theorem low_eq (m : Nat) (hm : 0 < m) (x : Int) : (low m x : Int) = x % (m : Int) := by
  cases x with
  | ofNat a => rfl
  | negSucc a =>
    have e := Int.negSucc_emod a (b := (m : Int)) (by omega)
    have h := Nat.mod_lt a hm
    have e2 : (((a % m : Nat)) : Int) = (a : Int) % (m : Int) := rfl
    show ((m - 1 - a % m : Nat) : Int) = Int.negSucc a % (m : Int)
    rw [e]
    omega
theorem low_lt (m : Nat) (hm : 0 < m) (x : Int) : low m x < m := by
  have h1 := low_eq m hm x
  have h2 := Int.emod_lt_of_pos x (show (0 : Int) < (m : Int) by omega)
  omega
theorem wrapS_eq (m a : Nat) (h : a < m) (hm : m % 2 = 0) : wrapS m a = if (a : Int) ≥ ((m / 2 : Nat) : Int) then (a : Int) - (m : Int) else (a : Int) := by
  unfold wrapS
  cases hb : Nat.ble (Nat.div m 2) a
  · simp only
    have : ¬ (m / 2 ≤ a) := fun h' => by have h3 := Nat.ble_eq_true_of_le h'; rw [show Nat.ble (m / 2) a = Nat.ble (m.div 2) a from rfl, hb] at h3; cases h3
    rw [if_neg (by omega)]
    rfl
  · simp only
    have h2 : m / 2 ≤ a := Nat.le_of_ble_eq_true hb
    rw [if_pos (by omega)]
    show Int.negSucc (m - 1 - a) = _
    rw [Int.negSucc_eq]
    omega
theorem wrap_i (k : IntKind) (x : Int) : wrapF k x = k.wrap x := by
  cases k <;> simp only [wrapF, sgn, md, IntKind.wrap, IntKind.bits, IntKind.signed, Bool.true_and, Bool.false_and, Bool.false_eq_true, if_false]
  · rw [wrapS_eq 256 _ (low_lt 256 (by omega) x) (by omega), low_eq 256 (by omega)]; simp
  · rw [wrapS_eq 65536 _ (low_lt 65536 (by omega) x) (by omega), low_eq 65536 (by omega)]; simp
  · rw [wrapS_eq 4294967296 _ (low_lt 4294967296 (by omega) x) (by omega), low_eq 4294967296 (by omega)]; simp
  · rw [wrapS_eq 18446744073709551616 _ (low_lt 18446744073709551616 (by omega) x) (by omega), low_eq 18446744073709551616 (by omega)]; simp
  · exact low_eq 256 (by omega) x
  · exact low_eq 65536 (by omega) x
  · exact low_eq 4294967296 (by omega) x
  · exact low_eq 18446744073709551616 (by omega) x
theorem ieq_ok (x y : Int) : ieq x y = decide (x = y) := by
  cases x <;> cases y <;> simp only [ieq]
  · rename_i a b
    rw [show Nat.beq a b = decide (a = b) by rw [Bool.eq_iff_iff]; simp]
    simp
    omega
  · simp
  · simp
  · rename_i a b
    rw [show Nat.beq a b = decide (a = b) by rw [Bool.eq_iff_iff]; simp]
    simp
theorem ble_dec (a b : Nat) : Nat.ble a b = decide (a ≤ b) := by rw [Bool.eq_iff_iff]; simp
theorem ile_ok (x y : Int) : ile x y = decide (x ≤ y) := by
  cases x <;> cases y <;> simp only [ile, ble_dec]
  · simp
  · rename_i a b
    rw [Bool.eq_iff_iff]
    simp
    omega
  · rename_i a b
    rw [Bool.eq_iff_iff]
    simp
    omega
  · rename_i a b
    rw [Bool.eq_iff_iff]
    simp
    omega
theorem keq_ok {a b : IntKind} (h : keq a b = true) : a = b := by cases a <;> cases b <;> first | rfl | cases h
theorem bts_ok (k : IntKind) : bts k = k.bits := by cases k <;> rfl
theorem minN_ok (a b : Nat) : minN a b = min a b := by
  unfold minN
  rw [ble_dec]
  by_cases h : a ≤ b
  · simp [h]
  · simp [h]; omega
theorem md_ok (k : IntKind) : md k = 2 ^ k.bits := by cases k <;> rfl
end Ev
end Go.Proofs.YthknbcbkibbncaaGreat

/- DERIVED. The evaluator's operations against the model's: values, places, loads, stores. -/
namespace Go.Proofs.YthknbcbkibbncaaGreat
namespace Ev
open Go.RowKit

section
variable {P : Program} {Y : Ty} {β : Id → CA} {D : Id → Prop} {B N : Nat} {W w : World} {s s' : S} {e : Env} {a : Act}

theorem gives_pure (hr : Rel β D B W s.h w) {x v : AV} {V : Value} (h : M.pure x s = some (v, s')) (hv : VR β D x V) {m : Sem Value} (hm : m.run P w = .ok V w) : Gives P β D B W s s' v m w := by
  obtain ⟨rfl, rfl⟩ := pure_some h
  exact Gives.same hr hv hm

theorem pick_ok (hr : Rel β D B W s.h w) {c x y v : AV} {C X Z : Value} (h : pickF c x y s = some (v, s')) (hc : VR β D c C) (hx : VR β D x X) (hy : VR β D y Z) :
    Gives P β D B W s s' v (do pure (if ← asBool C then X else Z)) w := by
  cases c <;> first | (simp only [pickF, M.no] at h; cases h; done) | skip
  rename_i t
  simp only [VR] at hc
  subst hc
  cases t
  · exact gives_pure hr h hy (by simp [asBool])
  · exact gives_pure hr h hx (by simp [asBool])
theorem fad_ok (hY : TyOk P Y) (hr : Rel β D B W s.h w) {t : TypeId} {fs : Array Field} {j : Nat} {f : Field} {m : Nat} (ht : under Y t = some (.struct fs)) (hj : fs.toList[j]? = some f) (hm : sizeT Y f.type = some m) (hm0 : 1 ≤ m)
    {x v : AV} {X : Value} (h : fadF f.offset x s = some (v, s')) (hx : VR β D x X) : Gives P β D B W s s' v (Instr.fieldAt t X j) w := by
  cases x <;> first | (simp only [fadF, M.no] at h; cases h; done) | skip
  rename_i id off
  simp only [VR] at hx
  obtain ⟨hd, rfl⟩ := hx
  have hj' : fs[j]? = some f := by simpa using hj
  have h0 : ¬ m = 0 := by omega
  refine gives_pure hr h (V := .pointer (some ⟨(β id).blk, (β id).base + (off + f.offset), none⟩)) ?_ ?_
  · simp only [VR]; exact ⟨hd, rfl⟩
  · simp [Instr.fieldAt, run_underlying (under_ok hY ht), hj', Instr.sureAddr, fieldPlace, size_ok hY hm, h0, Addr.add]
    split <;> simp_all [Nat.add_assoc]
theorem ext_ok (hr : Rel β D B W s.h w) {x v : AV} {X : Value} {j : Nat} (h : extF x j s = some (v, s')) (hx : VR β D x X) : Gives P β D B W s s' v (Instr.extract X j) w := by
  cases x <;> first | (simp only [extF, M.no] at h; cases h; done) | skip
  rename_i vs
  simp only [VR] at hx
  obtain ⟨C, rfl, hc⟩ := hx
  obtain ⟨u, hu, h⟩ := ofO_some h
  obtain ⟨U, hU, hv⟩ := hc.get j u hu
  exact gives_pure hr h hv (by simp [Instr.extract, hU])
theorem cvi_ok (hr : Rel β D B W s.h w) {x v : AV} {X : Value} {k : IntKind} (h : cviF k x s = some (v, s')) (hx : VR β D x X) :
    ∃ k' n, X = .int k' n ∧ Gives P β D B W s s' v (Conv.intToInt k n) w := by
  cases x <;> first | (simp only [cviF, M.no] at h; cases h; done) | skip
  rename_i k' n
  simp only [VR] at hx
  subst hx
  exact ⟨k', n, rfl, gives_pure hr h (V := .int k (k.wrap n)) (by simp [VR, wrap_i]) rfl⟩

theorem ld_ok (hY : TyOk P Y) (hr : Rel β D B W s.h w) {t : TypeId} {d : TypeDesc} (ht : under Y t = some d) (hd : isAggD d = false) {x v : AV} {X : Value} (h : ldF x s = some (v, s')) (hx : VR β D x X) :
    Gives P β D B W s s' v (Instr.loadAt t X) w := by
  cases x <;> first | (simp only [ldF, M.no] at h; cases h; done) | skip
  rename_i id off
  simp only [VR] at hx
  obtain ⟨did, rfl⟩ := hx
  obtain ⟨l, u, h1, h2⟩ := bind_some h
  obtain ⟨g1, g2, g3, Vs, g4, g5, g6, g7, g8⟩ := rd_ok hr.hr h1
  match l, h2, g3, g4 with
  | [y], h2, g3, g4 =>
    obtain ⟨rfl, rfl⟩ := pure_some h2
    obtain ⟨V, hV, hv⟩ := g4.get 0 v (by simp)
    have hagg : (isAgg t).run P w = .ok false w := by
      unfold isAgg
      rw [Sem.run_bind, run_underlying (under_ok hY ht)]
      cases d <;> simp_all [isAggD]
    have hc := g6 0 V hV
    refine ⟨β, D, w, V, ?_, ⟨by rw [g1]; exact hr.hr, hr.bel⟩, hv, ?_⟩
    · rw [g2]; exact Ext.refl _ _ _
    · simp only [Nat.add_zero] at hc
      simp [Instr.loadAt, Instr.sureAddr, loadVar, hagg, run_load, hc]
theorem ldn_ok (hY : TyOk P Y) (hr : Rel β D B W s.h w) {t : TypeId} {d : TypeDesc} {m : Nat} (ht : under Y t = some d) (hd : isAggD d = true) (hm : sizeT Y t = some m) {x v : AV} {X : Value} (h : ldnF m x s = some (v, s')) (hx : VR β D x X) :
    Gives P β D B W s s' v (Instr.loadAt t X) w := by
  cases x <;> first | (simp only [ldnF, M.no] at h; cases h; done) | skip
  rename_i id off
  simp only [VR] at hx
  obtain ⟨did, rfl⟩ := hx
  obtain ⟨l, u, h1, h2⟩ := bind_some h
  obtain ⟨g1, g2, g3, Vs, g4, g5, g6, g7, g8⟩ := rd_ok hr.hr h1
  obtain ⟨rfl, rfl⟩ := pure_some h2
  have hagg : (isAgg t).run P w = .ok true w := by
    unfold isAgg
    rw [Sem.run_bind, run_underlying (under_ok hY ht)]
    cases d <;> simp_all [isAggD]
  have hl := run_loadCells_list (P := P) w ⟨(β id).blk, (β id).base + off, none⟩ Vs (fun j V hV => by
    have := g6 j V hV
    have e : (⟨(β id).blk, (β id).base + off, none⟩ : Addr).add j = ⟨(β id).blk, (β id).base + off + j, none⟩ := by unfold Addr.add; split <;> simp_all
    rw [e]; exact this)
  rw [g5] at hl
  refine ⟨β, D, w, .agg Vs.toArray, ?_, ⟨by rw [g1]; exact hr.hr, hr.bel⟩, ?_, ?_⟩
  · rw [g2]; exact Ext.refl _ _ _
  · simp only [VR]; exact ⟨Vs, rfl, g4, g8⟩
  · simp [Instr.loadAt, Instr.sureAddr, loadVar, hagg, size_ok hY hm, hl]
theorem st_ok (hY : TyOk P Y) (hr : Rel β D B W s.h w) {t : TypeId} {m : Nat} (hm : sizeT Y t = some m) {x y v : AV} {X Z : Value} (h : stF m x y s = some (v, s')) (hx : VR β D x X) (hy : VR β D y Z) :
    ∃ w', Rel β D B W s'.h w' ∧ v = und ∧ s'.n = s.n ∧ (Instr.storeAt t X Z).run P w = .ok () w' := by
  cases x <;> first | (simp only [stF, M.no] at h; cases h; done) | skip
  rename_i id off
  simp only [VR] at hx
  obtain ⟨did, rfl⟩ := hx
  obtain ⟨l, hl, h⟩ := ofO_some h
  obtain ⟨hb, h⟩ := ifB_some h
  obtain ⟨u, t', h1, h2⟩ := bind_some h
  obtain ⟨rfl, rfl⟩ := pure_some h2
  have hlm : l.length = m := Nat.eq_of_beq_eq_true hb
  obtain ⟨k1, k2⟩ := hy.cells hl
  obtain ⟨g1, g2, g3, g4⟩ := wr_ok (P := P) hr.hr k1 k2 h1
  refine ⟨_, ⟨g2, setCells_below _ _ (hr.hr.old id did) _ _ _ _ hr.bel⟩, rfl, g1, ?_⟩
  have hsz : Z.cells.size = m := by have := k1.length; simp at this; omega
  simp [Instr.storeAt, Instr.sureAddr, storeVar, size_ok hY hm, hsz, g4]
theorem nil_ok (hr : Rel β D B W s.h w) {x v : AV} {X : Value} (h : nilF x s = some (v, s')) (hx : VR β D x X) : v = x ∧ s' = s ∧
    ((∃ ad, X = .pointer (some ad)) ∨ ∃ fn A C, X = .func (.func fn) A C) := by
  cases x <;> first | (simp only [nilF, M.no] at h; cases h; done) | skip
  · obtain ⟨rfl, rfl⟩ := pure_some h
    simp only [VR] at hx
    exact ⟨rfl, rfl, .inl ⟨_, hx.2⟩⟩
  · obtain ⟨rfl, rfl⟩ := pure_some h
    simp only [VR] at hx
    obtain ⟨A, C, hx, _⟩ := hx
    exact ⟨rfl, rfl, .inr ⟨_, _, _, hx⟩⟩
end
end Ev
end Go.Proofs.YthknbcbkibbncaaGreat

/- DERIVED. The evaluator's operations against the model's: numbers, equality, lengths. -/
namespace Go.Proofs.YthknbcbkibbncaaGreat
namespace Ev
open Go.RowKit

section
variable {P : Program} {Y : Ty} {β : Id → CA} {D : Id → Prop} {B N : Nat} {W w : World} {s s' : S} {e : Env} {a : Act}

theorem bv_nat (n a : Nat) (h : a < 2 ^ n) : (BitVec.ofInt n (a : Int)).toNat = a := by
  simp [BitVec.toNat_ofInt]
  exact Nat.mod_eq_of_lt h

theorem ofO_pure {o : Option AV} {v : AV} (h : M.ofO o M.pure s = some (v, s')) : o = some v ∧ s' = s := by
  obtain ⟨x, hx, h⟩ := ofO_some h
  obtain ⟨rfl, rfl⟩ := pure_some h
  exact ⟨hx, rfl⟩
theorem int_ok {o : BinOp} {k k' : IntKind} {x y : Int} {v : AV} (t : TypeId) (h : intF o k x k' y s = some (v, s')) : s' = s ∧ ∃ V, VR β D v V ∧ ∀ w, (binOp o t (.int k x) (.int k' y)).run P w = .ok V w := by
  have sh : ∀ (op : BinOp), op = .shl ∨ op = .shr → ∀ v, (if op = .shl then shl k x y else shr k x y) = some v → ∃ V, VR β D v V ∧ ∀ w, (Op.shift op k x k' y).run P w = .ok V w := by
    intro op hop v hv
    cases y with
    | negSucc b => rcases hop with rfl | rfl <;> simp [shl, shr] at hv
    | ofNat b =>
      have hneg : ¬ ((b : Int) < 0) := by omega
      rcases hop with rfl | rfl
      · simp only [if_true, shl] at hv
        cases hv
        refine ⟨_, by simp only [VR]; rfl, fun w => ?_⟩
        simp only [Op.shift, Int.ofNat_eq_natCast, if_neg hneg]
        simp [wrap_i, minN_ok, bts_ok]
      · simp only [reduceCtorEq, if_false, shr] at hv
        cases x with
        | negSucc a => cases hv
        | ofNat a =>
          simp only [Option.some.injEq] at hv
          cases hv
          refine ⟨_, by simp only [VR]; rfl, fun w => ?_⟩
          simp only [Op.shift, Int.ofNat_eq_natCast, if_neg hneg]
          simp [minN_ok, bts_ok]
          have e := Int.ofNat_fdiv a (2 ^ min b k.bits)
          rw [Int.natCast_pow] at e
          exact e.symm
  by_cases h1 : o = .shl
  · subst h1
    have g : M.ofO (shl k x y) M.pure s = some (v, s') := h
    obtain ⟨g2, rfl⟩ := ofO_pure g
    exact ⟨rfl, sh .shl (.inl rfl) v (by simpa using g2)⟩
  by_cases h2 : o = .shr
  · subst h2
    have g : M.ofO (shr k x y) M.pure s = some (v, s') := h
    obtain ⟨g2, rfl⟩ := ofO_pure g
    exact ⟨rfl, sh .shr (.inr rfl) v (by simpa using g2)⟩
  have h' : M.ifB (keq k k') (M.ofO (ari o k x y) M.pure) s = some (v, s') := by cases o <;> first | exact h | exact absurd rfl h1 | exact absurd rfl h2
  obtain ⟨hk, h3⟩ := ifB_some h'
  clear h h'
  obtain ⟨h', rfl⟩ := ofO_pure h3
  clear h3
  obtain rfl := keq_ok hk
  clear hk
  refine ⟨rfl, ?_⟩
  have bits : ∀ (f : Nat → Nat → Nat) (g : BitVec k.bits → BitVec k.bits → BitVec k.bits) (_ : ∀ p q, (g p q).toNat = f p.toNat q.toNat), ∀ a b : Nat, (Nat.blt a (md k) && Nat.blt b (md k)) = true → wrapF k (.ofNat (f a b)) = k.wrap ((g (BitVec.ofInt k.bits (a : Int)) (BitVec.ofInt k.bits (b : Int))).toNat : Int) := by
    intro f g hg a b hb
    simp only [Bool.and_eq_true] at hb
    have ha : a < 2 ^ k.bits := by rw [← md_ok]; exact Nat.le_of_ble_eq_true hb.1
    have hb' : b < 2 ^ k.bits := by rw [← md_ok]; exact Nat.le_of_ble_eq_true hb.2
    rw [wrap_i, hg, bv_nat _ _ ha, bv_nat _ _ hb']
    rfl
  cases o <;> simp only [ari] at h' <;> first
    | (exact absurd rfl h1)
    | (exact absurd rfl h2)
    | (cases h'; done)
    | skip
  · cases h'; exact ⟨_, by simp only [VR]; rfl, fun w => by simp [binOp, Op.intArith, wrap_i]⟩
  · cases h'; exact ⟨_, by simp only [VR]; rfl, fun w => by simp [binOp, Op.intArith, wrap_i]; rfl⟩
  · cases h'; exact ⟨_, by simp only [VR]; rfl, fun w => by simp [binOp, Op.intArith, wrap_i]⟩
  · rw [ieq_ok] at h'
    by_cases hy : y = 0
    · simp [hy] at h'
    · simp [hy] at h'
      cases h'
      exact ⟨_, by simp only [VR]; rfl, fun w => by simp [binOp, Op.intDiv, hy, wrap_i]⟩
  · rw [ieq_ok] at h'
    by_cases hy : y = 0
    · simp [hy] at h'
    · simp [hy] at h'
      cases h'
      exact ⟨_, by simp only [VR]; rfl, fun w => by simp [binOp, Op.intDiv, hy]⟩
  · cases x with
    | negSucc a => cases h'
    | ofNat a => cases y with
      | negSucc b => cases h'
      | ofNat b =>
        simp only at h'
        cases hb : (Nat.blt a (md k) && Nat.blt b (md k)) <;> rw [hb] at h' <;> simp only at h'
        · cases h'
        · cases h'
          refine ⟨_, by simp only [VR]; rfl, fun w => ?_⟩
          rw [bits Nat.land (fun p q => p &&& q) (fun p q => BitVec.toNat_and p q) a b hb]
          simp [binOp, Op.intBits]
  · cases x with
    | negSucc a => cases h'
    | ofNat a => cases y with
      | negSucc b => cases h'
      | ofNat b =>
        simp only at h'
        cases hb : (Nat.blt a (md k) && Nat.blt b (md k)) <;> rw [hb] at h' <;> simp only at h'
        · cases h'
        · cases h'
          refine ⟨_, by simp only [VR]; rfl, fun w => ?_⟩
          rw [bits Nat.lor (fun p q => p ||| q) (fun p q => BitVec.toNat_or p q) a b hb]
          simp [binOp, Op.intBits]
  · cases x with
    | negSucc a => cases h'
    | ofNat a => cases y with
      | negSucc b => cases h'
      | ofNat b =>
        simp only at h'
        cases hb : (Nat.blt a (md k) && Nat.blt b (md k)) <;> rw [hb] at h' <;> simp only at h'
        · cases h'
        · cases h'
          refine ⟨_, by simp only [VR]; rfl, fun w => ?_⟩
          rw [bits Nat.xor (fun p q => p ^^^ q) (fun p q => BitVec.toNat_xor p q) a b hb]
          simp [binOp, Op.intBits]
  · cases x with
    | negSucc a => cases h'
    | ofNat a => cases y with
      | negSucc b => cases h'
      | ofNat b =>
        simp only at h'
        cases hb : (Nat.blt a (md k) && Nat.blt b (md k)) <;> rw [hb] at h' <;> simp only at h'
        · cases h'
        · cases h'
          refine ⟨_, by simp only [VR]; rfl, fun w => ?_⟩
          have hg : ∀ p q : BitVec k.bits, (p &&& ~~~q).toNat = Nat.xor p.toNat (Nat.land p.toNat q.toNat) := fun p q => by
            have e : p &&& ~~~q = p ^^^ (p &&& q) := by
              ext i hi
              simp
              cases p[i] <;> cases q[i] <;> rfl
            rw [e, BitVec.toNat_xor, BitVec.toNat_and]
            rfl
          rw [bits (fun a b => Nat.xor a (Nat.land a b)) (fun p q => p &&& ~~~q) hg a b hb]
          simp [binOp, Op.intBits]
  all_goals
    cases h'
    refine ⟨_, by simp only [VR]; rfl, fun w => ?_⟩
    simp [binOp, Op.intCmp, ieq_ok, ile_ok]
    try first | rfl | (rw [Bool.eq_iff_iff]; simp; done) | (rw [Bool.eq_iff_iff]; simp; omega)
end
end Ev
end Go.Proofs.YthknbcbkibbncaaGreat
