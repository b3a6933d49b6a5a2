/- DERIVED. A region that draws its order: slots and waits, plainly. -/
import Derived.WalkKit
import Derived.Laws.Slices
import Derived.LaidEql
import Derived.Laws.Cover3
import Derived.Laws.IdiomStrings
import Derived.Laws.Entries
import Derived.Laws.Tables
import Derived.Laws.MakeOwn
import Derived.Great.BuildSlice
import Derived.Test.YthknbcbkibbncaaGreatCn2
import Derived.Test.YthknbcbkibbncaaGreatCn5
set_option linter.all false
namespace Go.Proofs.YthknbcbkibbncaaGreat
namespace Ev

theorem arg_congr {x : Arg} {e e' : Env} (h : ∀ t ∈ tmpsA x, e t = e' t) : arg x e = arg x e' := by
  cases x with
  | t n => exact h n (by simp [tmpsA])
  | c v => rfl
theorem args_congr {l : List Arg} {e e' : Env} (h : ∀ t ∈ tmpsAs l, e t = e' t) : args l e = args l e' := by
  unfold args
  refine List.map_congr_left fun x hx => arg_congr fun t ht => h t ?_
  simp only [tmpsAs, List.mem_flatMap]
  exact ⟨x, hx, ht⟩
theorem argO_congr {x : Option Arg} {e e' : Env} (h : ∀ t ∈ tmpsO x, e t = e' t) : argO x e = argO x e' := by
  cases x with
  | none => rfl
  | some x => simp only [argO]; rw [arg_congr h]
theorem fillL_congr {e e' : Env} : ∀ {ps : List Part} {cs : List AV}, (∀ t ∈ ps.flatMap fun p => tmpsA p.x, e t = e' t) → fillL e ps cs = fillL e' ps cs
  | [], _, _ => rfl
  | p :: ps, cs, h => by
    simp only [List.flatMap_cons, List.mem_append] at h
    simp only [fillL]
    rw [arg_congr fun t ht => h t (.inl ht)]
    cases (arg p.x e').cells with
    | none => rfl
    | some l =>
      simp only
      rw [fillL_congr fun t ht => h t (.inr ht)]
theorem poR_congr {o : PO} {F : Fns} {e e' : Env} (h : ∀ t ∈ tmpsP o, e t = e' t) : poR o F e = poR o F e' := by
  cases o <;> simp only [tmpsP, List.mem_append] at h <;> simp only [poR]
  case mv x => rw [arg_congr h]
  case pick c a b => rw [arg_congr fun t ht => h t (.inl ht), arg_congr (x := a) fun t ht => h t (.inr (.inl ht)), arg_congr (x := b) fun t ht => h t (.inr (.inr ht))]
  case box z x => rw [arg_congr h]
  case build cs ps => rw [fillL_congr h]
  case bsl z cs len ps => rw [fillL_congr h]
  case ld1 x => rw [arg_congr h]
  case ldn m x => rw [arg_congr h]
  case st m x y => rw [arg_congr fun t ht => h t (.inl ht), arg_congr (x := y) fun t ht => h t (.inr ht)]
  case nilc x => rw [arg_congr h]
  case bin o x y => rw [arg_congr fun t ht => h t (.inl ht), arg_congr (x := y) fun t ht => h t (.inr ht)]
  case eq k n x y => rw [arg_congr fun t ht => h t (.inl ht), arg_congr (x := y) fun t ht => h t (.inr ht)]
  case un o x => rw [arg_congr h]
  case cvi k x => rw [arg_congr h]
  case cvs x => rw [arg_congr h]
  case cvb x => rw [arg_congr h]
  case cvt x => rw [arg_congr h]
  case cvm x => rw [arg_congr h]
  case mkf f x y => rw [args_congr fun t ht => h t (.inl ht), args_congr (l := y) fun t ht => h t (.inr ht)]
  case mks z cs x y => rw [arg_congr fun t ht => h t (.inl ht), arg_congr (x := y) fun t ht => h t (.inr ht)]
  case sls w x a b c => rw [arg_congr fun t ht => h t (.inl ht), argO_congr (x := a) fun t ht => h t (.inr (.inl ht)), argO_congr (x := b) fun t ht => h t (.inr (.inr (.inl ht))), argO_congr (x := c) fun t ht => h t (.inr (.inr (.inr ht)))]
  case sla w n x a b c => rw [arg_congr fun t ht => h t (.inl ht), argO_congr (x := a) fun t ht => h t (.inr (.inl ht)), argO_congr (x := b) fun t ht => h t (.inr (.inr (.inl ht))), argO_congr (x := c) fun t ht => h t (.inr (.inr (.inr ht)))]
  case slt x a b => rw [arg_congr fun t ht => h t (.inl ht), argO_congr (x := a) fun t ht => h t (.inr (.inl ht)), argO_congr (x := b) fun t ht => h t (.inr (.inr ht))]
  case fad o x => rw [arg_congr h]
  case ixa n w x y => rw [arg_congr fun t ht => h t (.inl ht), arg_congr (x := y) fun t ht => h t (.inr ht)]
  case ixs w x y => rw [arg_congr fun t ht => h t (.inl ht), arg_congr (x := y) fun t ht => h t (.inr ht)]
  case ext x j => rw [arg_congr h]
  case calv f l => rw [arg_congr fun t ht => h t (.inl ht), args_congr fun t ht => h t (.inr ht)]
  case app z w x y => rw [arg_congr fun t ht => h t (.inl ht), arg_congr (x := y) fun t ht => h t (.inr ht)]
  case apz z w cs x y => rw [arg_congr fun t ht => h t (.inl ht), arg_congr (x := y) fun t ht => h t (.inr ht)]
  case cpy w x y => rw [arg_congr fun t ht => h t (.inl ht), arg_congr (x := y) fun t ht => h t (.inr ht)]
  case clr cs x => rw [arg_congr h]
  case len x => rw [arg_congr h]
  case lns x => rw [arg_congr h]
  case cap x => rw [arg_congr h]
  case mm m x l => rw [arg_congr fun t ht => h t (.inl ht), args_congr fun t ht => h t (.inr ht)]
  case lkm q z ok x y => rw [arg_congr fun t ht => h t (.inl ht), arg_congr (x := y) fun t ht => h t (.inr ht)]
  case mup q x y z => rw [arg_congr fun t ht => h t (.inl ht), arg_congr (x := y) fun t ht => h t (.inr (.inl ht)), arg_congr (x := z) fun t ht => h t (.inr (.inr ht))]
  case del q x y => rw [arg_congr fun t ht => h t (.inl ht), arg_congr (x := y) fun t ht => h t (.inr ht)]
  case lnm x => rw [arg_congr h]
  case men q z x y => rw [arg_congr fun t ht => h t (.inl ht), arg_congr (x := y) fun t ht => h t (.inr ht)]
  case mes x y z => rw [arg_congr fun t ht => h t (.inl ht), arg_congr (x := y) fun t ht => h t (.inr (.inl ht)), arg_congr (x := z) fun t ht => h t (.inr (.inr ht))]
  case fld a b c x => rw [arg_congr h]
  case idx a b c x y => rw [arg_congr fun t ht => h t (.inl ht), arg_congr (x := y) fun t ht => h t (.inr ht)]
  case ixt x y => rw [arg_congr fun t ht => h t (.inl ht), arg_congr (x := y) fun t ht => h t (.inr ht)]
  case sap n x => rw [arg_congr h]
theorem psV_congr {o : PS} {F : Fns} {e e' : Env} (h : ∀ t ∈ readsS o, e t = e' t) : psV o F e = psV o F e' := by
  unfold psV
  cases hg : o.g with
  | none =>
    simp only [readsS, hg] at h
    simp only [wanted]
    exact poR_congr h
  | some g =>
    simp only [readsS, hg, List.mem_cons] at h
    have h1 := h g.1 (.inl rfl)
    have h2 : poR o.o F e = poR o.o F e' := poR_congr fun t ht => h t (.inr ht)
    simp only [wanted]
    rw [h1, h2]

theorem hits_no {a b : List Rng} (h : hits a b = false) {id : Id} {j : Nat} (ha : cov a id j) (hb : cov b id j) : False := by
  obtain ⟨r, hr, e1, e2, e3⟩ := ha
  obtain ⟨r', hr', f1, f2, f3⟩ := hb
  have : hits a b = true := by
    unfold hits
    rw [List.any_eq_true]
    refine ⟨r, hr, ?_⟩
    rw [List.any_eq_true]
    refine ⟨r', hr', ?_⟩
    unfold hit
    rw [e1, f1]
    simp only [Bool.and_eq_true]
    refine ⟨by simp, ?_, ?_⟩
    · exact Nat.ble_eq_true_of_le (by omega)
    · exact Nat.ble_eq_true_of_le (by omega)
  rw [h] at this
  cases this
theorem clash_no {m : Nat} {b a : Ft} (h : clash m b a = false) : Nat.testBit m a.i = true ∨ (∀ id j, cov a.w id j → ¬ cov b.w id j) ∧ (∀ id j, cov a.w id j → ¬ cov b.r id j) ∧ (∀ id j, cov a.r id j → ¬ cov b.w id j) := by
  unfold clash at h
  cases ht : Nat.testBit m a.i
  · right
    rw [ht] at h
    simp only [Bool.or_eq_false_iff] at h
    exact ⟨fun id j x y => hits_no h.1 x y, fun id j x y => hits_no h.2.1 x y, fun id j x y => hits_no h.2.2 x y⟩
  · exact .inl rfl

structure Steps (F : Fns) (l : List PS) (ms : List Nat) (i : Nat) (E : Nat → Env) (H : Nat → Heap) (n : Nat → Id) (v : Nat → AV) (R W : Nat → List Rng) : Prop where
  run : ∀ k o, l[k]? = some o → psV o F (E k) ⟨true, H k, n k, [], []⟩ = some (v k, ⟨true, H (k + 1), n (k + 1), R k, W k⟩) ∧ E (k + 1) = putO o.d (v k) (E k)
  len : ms.length ≥ l.length
  calm : ∀ k m, k < l.length → ms[k]? = some m → ∀ k', k' < k → clash m ⟨i + k, R k, W k⟩ ⟨i + k', R k', W k'⟩ = false
theorem apart_some {α : Type} {m : M α} {s s' : S} {x : α × List Rng × List Rng} (h : M.apart m s = some (x, s')) : ∃ t, m ⟨true, s.h, s.n, [], []⟩ = some (x.1, t) ∧ x.2.1 = t.r ∧ x.2.2 = t.w ∧ s'.h = t.h ∧ s'.n = t.n ∧ s'.tr = s.tr := by
  unfold M.apart at h
  cases hm : m ⟨true, s.h, s.n, [], []⟩ with
  | none => rw [hm] at h; cases h
  | some q =>
    obtain ⟨y, t⟩ := q
    rw [hm] at h
    simp only at h
    cases htr : s.tr <;> rw [htr] at h <;> simp only at h <;> cases h
    · exact ⟨t, rfl, rfl, rfl, rfl, rfl, rfl⟩
    · exact ⟨t, rfl, rfl, rfl, rfl, rfl, rfl⟩
theorem drw_steps {F : Fns} (hF : LocF F) : ∀ (l : List PS) (ms : List Nat) (acc : List Ft) (i : Nat) (e : Env) (s : S) (e' : Env) (s' : S), drwR F l ms acc i e s = some (e', s') →
    ∃ E H n v R W, Steps F l ms i E H n v R W ∧ E 0 = e ∧ H 0 = s.h ∧ n 0 = s.n ∧ E l.length = e' ∧ H l.length = s'.h ∧ n l.length = s'.n ∧ (∀ k m, k < l.length → ms[k]? = some m → ∀ a ∈ acc, clash m ⟨i + k, R k, W k⟩ a = false)
  | [], ms, acc, i, e, s, e', s', h => by
    simp only [drwR, M.pure, Option.some.injEq, Prod.mk.injEq] at h
    obtain ⟨rfl, rfl⟩ := h
    exact ⟨fun _ => e, fun _ => s.h, fun _ => s.n, fun _ => und, fun _ => [], fun _ => [], ⟨fun k o h => by simp at h, by simp, fun k m hk => by simp at hk⟩, rfl, rfl, rfl, rfl, rfl, rfl, fun k m hk => by simp at hk⟩
  | o :: l, [], acc, i, e, s, e', s', h => by simp [drwR, M.no] at h
  | o :: l, m :: ms, acc, i, e, s, e', s', h => by
    simp only [drwR, M.bind] at h
    cases hap : M.apart (psR o F e) s with
    | none => rw [hap] at h; cases h
    | some xu =>
      obtain ⟨x, u⟩ := xu
      rw [hap] at h
      simp only at h
      cases hcl : acc.any (clash m ⟨i, x.2.1, x.2.2⟩) <;> rw [hcl] at h <;> simp only at h
      · obtain ⟨t, t1, t2, t3, t4, t5, t6⟩ := apart_some hap
        simp only [psR, M.bind] at t1
        cases hps : psV o F e ⟨true, s.h, s.n, [], []⟩ with
        | none => rw [hps] at t1; cases t1
        | some vu =>
          obtain ⟨v0, u0⟩ := vu
          rw [hps] at t1
          simp only [M.pure, Option.some.injEq, Prod.mk.injEq] at t1
          obtain ⟨t1, rfl⟩ := t1
          obtain ⟨b1, b2, b3, _⟩ := Loc.psV hF o e ⟨true, s.h, s.n, [], []⟩ v0 u0 hps
          obtain ⟨E, H, n, v, R, W, st, c1, c2, c3, c4, c5, c6, c7⟩ := drw_steps hF l ms (⟨i, x.2.1, x.2.2⟩ :: acc) (i + 1) x.1 u e' s' h
          have cons : ∀ {γ : Type} (y : γ) (g : Nat → γ) (k : Nat), (fun k => match k with | 0 => y | k + 1 => g k) (k + 1) = g k := fun _ _ _ => rfl
          refine ⟨fun k => match k with | 0 => e | k + 1 => E k, fun k => match k with | 0 => s.h | k + 1 => H k, fun k => match k with | 0 => s.n | k + 1 => n k, fun k => match k with | 0 => v0 | k + 1 => v k,
            fun k => match k with | 0 => x.2.1 | k + 1 => R k, fun k => match k with | 0 => x.2.2 | k + 1 => W k, ⟨fun k o' ho' => ?_, ?_, fun k m' hk hm' k' hk' => ?_⟩, rfl, rfl, rfl, c4, c5, c6, fun k m' hk hm' a ha => ?_⟩
          · cases k with
            | zero =>
              simp only [List.getElem?_cons_zero, Option.some.injEq] at ho'
              subst ho'
              refine ⟨?_, ?_⟩
              · show psV o F e ⟨true, s.h, s.n, [], []⟩ = some (v0, ⟨true, H 0, n 0, x.2.1, x.2.2⟩)
                rw [hps, c2, c3, t4, t5, t2, t3]
                obtain ⟨utr, uh, un, ur, uw⟩ := u0
                simp only at b1
                subst b1
                rfl
              · show E 0 = putO o.d v0 e
                rw [c1, t1]
            | succ k => exact st.run k o' (by simpa using ho')
          · have := st.len; simp; omega
          · cases k with
            | zero => omega
            | succ k =>
              simp only [List.getElem?_cons_succ] at hm'
              simp only [List.length_cons, Nat.add_lt_add_iff_right] at hk
              cases k' with
              | zero =>
                have := c7 k m' hk hm' ⟨i, x.2.1, x.2.2⟩ (by simp)
                rw [show i + (k + 1) = i + 1 + k by omega]
                exact this
              | succ k' =>
                have := st.calm k m' hk hm' k' (by omega)
                rw [show i + (k + 1) = i + 1 + k by omega, show i + (k' + 1) = i + 1 + k' by omega]
                exact this
          · cases k with
            | zero =>
              simp only [List.getElem?_cons_zero, Option.some.injEq] at hm'
              subst hm'
              rw [List.any_eq_false] at hcl
              simpa using hcl a ha
            | succ k =>
              simp only [List.getElem?_cons_succ] at hm'
              simp only [List.length_cons, Nat.add_lt_add_iff_right] at hk
              have := c7 k m' hk hm' a (by simp [ha])
              rw [show i + (k + 1) = i + 1 + k by omega]
              exact this
      · simp [M.no] at h

theorem ancL_spec (acc : List Nat) : ∀ (l : List Edge) (p : Nat), Nat.testBit (ancL acc l) p = true → ∃ ed ∈ l, Region.binds .any ed = true ∧ ed.on < acc.length ∧ (p = ed.on ∨ Nat.testBit (acc[acc.length - 1 - ed.on]?.getD 0) p = true)
  | [], p, h => by simp [ancL] at h
  | ed :: l, p, h => by
    simp only [ancL] at h
    have rest : Nat.testBit (ancL acc l) p = true → ∃ ed' ∈ ed :: l, Region.binds .any ed' = true ∧ ed'.on < acc.length ∧ (p = ed'.on ∨ Nat.testBit (acc[acc.length - 1 - ed'.on]?.getD 0) p = true) := fun h => by
      obtain ⟨ed', h1, h2⟩ := ancL_spec acc l p h
      exact ⟨ed', by simp [h1], h2⟩
    cases hb : (Region.binds .any ed && Nat.blt ed.on acc.length) <;> rw [hb] at h <;> simp only at h
    · exact rest h
    · simp only [Bool.and_eq_true] at hb
      have h' : (Nat.testBit (ancL acc l) p || (Nat.testBit (1 <<< ed.on) p || Nat.testBit (acc[acc.length - 1 - ed.on]?.getD 0) p)) = true := by
        rw [← Nat.testBit_or, ← Nat.testBit_or]
        exact h
      simp only [Bool.or_eq_true] at h'
      rcases h' with h' | h' | h'
      · exact rest h'
      · refine ⟨ed, by simp, hb.1, Nat.le_of_ble_eq_true hb.2, .inl ?_⟩
        rw [Nat.one_shiftLeft, Nat.testBit_two_pow] at h'
        simp at h'
        exact h'.symm
      · exact ⟨ed, by simp, hb.1, Nat.le_of_ble_eq_true hb.2, .inr h'⟩
theorem anc_length : ∀ (l : List Oper) (acc : List Nat), (anc acc l).length = acc.length + l.length
  | [], acc => by simp [anc]
  | o :: l, acc => by simp [anc, anc_length l]; omega
theorem anc_keep : ∀ (l : List Oper) (acc : List Nat) (k : Nat), k < acc.length → (anc acc l)[k]? = acc[acc.length - 1 - k]?
  | [], acc, k, h => by simp only [anc]; rw [List.getElem?_reverse h]
  | o :: l, acc, k, h => by
    simp only [anc]
    rw [anc_keep l _ k (by simp; omega)]
    simp only [List.length_cons]
    rw [show acc.length + 1 - 1 - k = (acc.length - 1 - k) + 1 by omega, List.getElem?_cons_succ]
theorem anc_spec : ∀ (l : List Oper) (acc : List Nat) (k : Nat) (o : Oper), l[k]? = some o → ∀ p, Nat.testBit ((anc acc l)[acc.length + k]?.getD 0) p = true →
    ∃ ed ∈ o.after.toList, Region.binds .any ed = true ∧ ed.on < acc.length + k ∧ (p = ed.on ∨ Nat.testBit ((anc acc l)[ed.on]?.getD 0) p = true)
  | [], acc, k, o, ho, p, h => by simp at ho
  | o0 :: l, acc, k, o, ho, p, h => by
    simp only [anc] at h ⊢
    cases k with
    | zero =>
      simp only [List.getElem?_cons_zero, Option.some.injEq] at ho
      subst ho
      rw [Nat.add_zero, anc_keep l _ acc.length (by simp)] at h
      simp only [List.length_cons, Nat.add_sub_cancel, Nat.sub_self, List.getElem?_cons_zero, Option.getD_some] at h
      obtain ⟨ed, h1, h2, h3, h4⟩ := ancL_spec acc o0.after.toList p h
      refine ⟨ed, h1, h2, by omega, h4.imp id fun h4 => ?_⟩
      rw [anc_keep l _ ed.on (by simp; omega)]
      simp only [List.length_cons]
      rw [show acc.length + 1 - 1 - ed.on = (acc.length - 1 - ed.on) + 1 by omega, List.getElem?_cons_succ]
      exact h4
    | succ k =>
      simp only [List.getElem?_cons_succ] at ho
      obtain ⟨ed, h1, h2, h3, h4⟩ := anc_spec l (ancL acc o0.after.toList :: acc) k o ho p (by
        simp only [List.length_cons]
        rw [show acc.length + 1 + k = acc.length + (k + 1) by omega]
        exact h)
      simp only [List.length_cons] at h3
      exact ⟨ed, h1, h2, by omega, h4⟩
theorem back_spec : ∀ (l : List Oper) (i k : Nat) (o : Oper), backOk i l = true → l[k]? = some o → ∀ ed ∈ o.after, Region.binds .any ed = true → ed.on < i + k
  | [], i, k, o, h, ho => by simp at ho
  | o0 :: l, i, k, o, h, ho => by
    simp only [backOk, Bool.and_eq_true] at h
    cases k with
    | zero =>
      simp only [List.getElem?_cons_zero, Option.some.injEq] at ho
      subst ho
      intro ed hed hb
      have := List.all_eq_true.1 h.1 ed (by simpa using hed)
      simp only [Bool.or_eq_true, Bool.not_eq_true'] at this
      rcases this with h' | h'
      · rw [hb] at h'; cases h'
      · exact Nat.le_of_ble_eq_true h'
    | succ k =>
      simp only [List.getElem?_cons_succ] at ho
      intro ed hed hb
      have := back_spec l (i + 1) k o h.2 ho ed hed hb
      omega
theorem last_of (p : Nat → Prop) : ∀ n : Nat, ∃ m, m ≤ n ∧ (m = 0 ∨ p (m - 1)) ∧ ∀ k, k < n → p k → k < m
  | 0 => ⟨0, Nat.le_refl _, .inl rfl, fun k h => by omega⟩
  | n + 1 => by
    obtain ⟨m, h1, h2, h3⟩ := last_of p n
    by_cases hp : p n
    · exact ⟨n + 1, Nat.le_refl _, .inr (by simpa using hp), fun k hk _ => by omega⟩
    · refine ⟨m, by omega, h2, fun k hk hpk => ?_⟩
      by_cases hkn : k = n
      · subst hkn; exact absurd hpk hp
      · exact h3 k (by omega) hpk
theorem slots_spec {l : List PS} {ms : List Nat} (h : slotsOk l ms = true) {i j : Nat} {a b : PS} (hij : i < j) (ha : l[i]? = some a) (hb : l[j]? = some b) (ht : Nat.testBit (ms[j]?.getD 0) i = false) : apartS a b = true ∧ apartS b a = true := by
  have hj : j < l.length := (List.getElem?_eq_some_iff.1 hb).1
  unfold slotsOk at h
  rw [List.all_eq_true] at h
  have h1 := h j (by simp [hj])
  rw [List.all_eq_true] at h1
  have h2 := h1 i (by simp [hij])
  rw [ht, ha, hb] at h2
  simp only [Bool.false_or, Bool.and_eq_true] at h2
  exact h2
theorem apartS_spec {a b : PS} (h : apartS a b = true) {d : Nat} (hd : a.d = some d) : d ∉ readsS b ∧ b.d ≠ some d := by
  unfold apartS at h
  rw [hd] at h
  simp only [Bool.and_eq_true, Bool.not_eq_true'] at h
  refine ⟨fun hm => ?_, fun hb => ?_⟩
  · have := h.1
    simp [hm] at this
  · have := h.2
    rw [hb] at this
    simp at this
end Ev
end Go.Proofs.YthknbcbkibbncaaGreat

/- DERIVED. The evaluator's operations against the model's: the ground. -/
namespace Go.Proofs.YthknbcbkibbncaaGreat
namespace Ev
open Go.RowKit

structure TyOk (P : Program) (Y0 : Ty) : Prop where
  t : ∀ t i, Y0.t t = some i → P.info? t = some i
  q : ∀ t, Y0.q t = true → ∀ (op : BinOp) (ng : Bool), (op = .eql ∧ ng = false ∨ op = .neq ∧ ng = true) → ∀ (β : Id → CA) (D : Id → Prop) (xs ys : List AV) (X Y : List Value) (r : Bool), VRs β D xs X → VRs β D ys Y → sizeT Y0 t = some xs.length → ceqs xs ys = some r →
    ∀ (x y : Operand) (w : World), (do eqGuard op t x y (.agg X.toArray) (.agg Y.toArray); binOp op t (.agg X.toArray) (.agg Y.toArray) : Sem Value).run P w = .ok (.bool (ng != r)) w

section
variable {P : Program} {Y : Ty} (hY : TyOk P Y)
include hY

theorem under_ok {t : TypeId} {d : TypeDesc} (h : under Y t = some d) : P.underlying t = some d := by
  unfold under at h
  rw [Option.bind_eq_some_iff] at h
  obtain ⟨i, hi, hd⟩ := h
  have hp := hY.t t i hi
  unfold Program.underlying
  rw [hp]
  unfold descT at hd
  split at hd
  · rename_i n u he
    rw [Option.bind_eq_some_iff] at hd
    obtain ⟨j, hj, hd⟩ := hd
    cases hd
    cases i
    simp only at he
    subst he
    simp [hY.t u j hj]
  · rename_i hn
    cases hd
    cases i with
    | mk desc =>
      cases desc <;> first | rfl | exact absurd rfl (hn _ _)
theorem size_ok {t : TypeId} {m : Nat} (h : sizeT Y t = some m) (w : World) : (sizeOf t).run P w = .ok m w := by
  unfold sizeT at h
  rw [Option.bind_eq_some_iff] at h
  obtain ⟨i, hi, hm⟩ := h
  cases hm
  simp [sizeOf, typeInfo, hY.t t i hi]
theorem size_info {t : TypeId} {m : Nat} (h : sizeT Y t = some m) : (P.info? t).map (·.size) = some m := by
  unfold sizeT at h
  rw [Option.bind_eq_some_iff] at h
  obtain ⟨i, hi, hm⟩ := h
  cases hm
  simp [hY.t t i hi]
theorem elemS_ok {t el : TypeId} (h : elemS Y t = some el) : P.underlying t = some (.slice el) := by
  unfold elemS at h
  rw [Option.bind_eq_some_iff] at h
  obtain ⟨d, hd, he⟩ := h
  have := under_ok hY hd
  cases d <;> simp only [sliceD] at he <;> cases he
  exact this
end

theorem ofC_ok {v : Value} {a : AV} (h : ofC v = some a) (β : Id → CA) (D : Id → Prop) : VR β D a v ∧ a.one = true ∧ a.cells = some [a] ∧ v.cells = #[v] := by
  unfold ofC at h
  split at h <;> cases h <;> simp [VR, AV.one, AV.cells, Value.cells]
  rename_i x
  refine ⟨?_, fun b _ => b.toNat_lt⟩
  have e : (UInt8.ofNat ∘ fun b : UInt8 => b.toNat) = id := by funext b; simp
  rw [e]
  simp
theorem ofCs_ok : ∀ {l : List Value} {as9 : List AV}, ofCs l = some as9 → ∀ (β : Id → CA) (D : Id → Prop), VRs β D as9 l ∧ ∀ x ∈ as9, x.one = true
  | [], as9, h, β, D => by simp only [ofCs] at h; cases h; exact ⟨VRs.nil, by simp⟩
  | v :: l, as9, h, β, D => by
    simp only [ofCs, Option.bind_eq_some_iff] at h
    obtain ⟨a, ha, bs, hb, h⟩ := h
    cases h
    have h1 := ofC_ok ha β D
    have h2 := ofCs_ok hb β D
    exact ⟨VRs.cons h1.1 h2.1, by simp [h1.2.1]; exact h2.2⟩
theorem ofV_ok {v : Value} {a : AV} (h : ofV v = some a) (β : Id → CA) (D : Id → Prop) : VR β D a v := by
  unfold ofV at h
  split at h
  · rw [Option.bind_eq_some_iff] at h
    obtain ⟨l, hl, h⟩ := h
    cases h
    have := ofCs_ok hl β D
    simp only [VR]
    exact ⟨_, by simp, this⟩
  · split at h
    · rename_i vs he
      cases h
      simp only [VR]
      exact ⟨[], by simpa using he, VRs.nil⟩
    · cases h
  · exact (ofC_ok h β D).1

section
variable {β : Id → CA} {D : Id → Prop}
theorem VR.cells {a : AV} {V : Value} (h : VR β D a V) {l : List AV} (hl : a.cells = some l) : VRs β D l V.cells.toList ∧ ∀ x ∈ l, x.one = true := by
  cases a with
  | ag xs =>
    simp only [AV.cells] at hl
    cases hl
    simp only [VR] at h
    obtain ⟨C, rfl, h1, h2⟩ := h
    exact ⟨by simpa [Value.cells] using h1, h2⟩
  | tu xs => simp [AV.cells] at hl
  | _ =>
    all_goals
      simp only [AV.cells] at hl
      cases hl
      have hone : V.oneCell' = true := h.one rfl
      have hc : V.cells = #[V] := by cases V <;> first | rfl | cases hone
      rw [hc]
      exact ⟨VRs.cons h VRs.nil, by simp [AV.one]⟩
theorem VR.und : VR β D und undef := by
  simp only [Ev.und, VR]
  exact ⟨[], rfl, VRs.nil⟩
theorem VR.bool {v : AV} {t : Bool} (h : VR β D v (.bool t)) : v = .b t := by
  cases v <;> simp [VR] at h ⊢
  exact h.symm
end

structure ER (β : Id → CA) (D : Id → Prop) (N : Nat) (e : Env) (a : Act) : Prop where
  size : N ≤ a.tmps.size
  at_ : ∀ t, VR β D (e t) (a.tmps.getD t undef)
  defers : a.defers = []
structure Rel (β : Id → CA) (D : Id → Prop) (B : Nat) (W : World) (h : Heap) (w : World) : Prop where
  hr : HR β D B h w
  bel : Below B W w
def Fresh (D : Id → Prop) (n n' : Nat) : Prop := ∀ id : Id, n ≤ id.num → id.num < n' → ¬ D id
def Gives (P : Program) (β : Id → CA) (D : Id → Prop) (B : Nat) (W : World) (s s' : S) (v : AV) (m : Sem Value) (w : World) : Prop :=
  ∃ β' D' w' V, Ext β D β' D' s.n.num s'.n.num ∧ Rel β' D' B W s'.h w' ∧ VR β' D' v V ∧ m.run P w = .ok V w'

section
variable {P : Program} {Y : Ty} {β : Id → CA} {D : Id → Prop} {B N : Nat} {W w : World} {s s' : S} {e : Env} {a : Act}

theorem ER.mono {β' : Id → CA} {D' : Id → Prop} {n n' : Nat} (hx : Ext β D β' D' n n') (he : ER β D N e a) : ER β' D' N e a := ⟨he.size, fun t => VR.mono hx _ _ (he.at_ t), he.defers⟩
theorem ER.put (he : ER β D N e a) {d : Option Nat} (hd : dstOk N d = true) {v : AV} {V : Value} (hv : VR β D v V) : ER β D N (putO d v e) (a.put d V) := by
  cases d with
  | none => exact he
  | some d =>
    simp only [dstOk] at hd
    have hd' : d < N := Nat.le_of_ble_eq_true hd
    refine ⟨by simpa [Act.put] using he.size, fun t => ?_, he.defers⟩
    simp only [putO, Act.put]
    by_cases ht : t = d
    · subst ht
      rw [if_pos rfl, Array.getD_eq_getD_getElem?, Array.getElem?_setIfInBounds, if_pos rfl, if_pos (Nat.lt_of_lt_of_le hd' he.size)]
      exact hv
    · rw [if_neg ht, Array.getD_eq_getD_getElem?, Array.getElem?_setIfInBounds, if_neg (fun e => ht e.symm), ← Array.getD_eq_getD_getElem?]
      exact he.at_ t

theorem arg_ok (he : ER β D N e a) {x : Operand} {y : Arg} (h : cA x = some y) : VR β D (arg y e) (a.eval x) := by
  cases x with
  | tmp t => simp only [cA] at h; cases h; exact he.at_ t
  | const v =>
    simp only [cA, Option.bind_eq_some_iff] at h
    obtain ⟨b, hb, h⟩ := h
    cases h
    exact ofV_ok hb β D
  | func f =>
    simp only [cA] at h
    cases h
    simp only [arg, VR, Act.eval]
    exact ⟨[], [], rfl, VRs.nil, VRs.nil⟩
  | global g => simp [cA] at h
theorem args_ok (he : ER β D N e a) : ∀ {xs : List Operand} {ys : List Arg}, cAs xs = some ys → VRs β D (args ys e) (xs.map a.eval)
  | [], ys, h => by simp only [cAs] at h; cases h; exact VRs.nil
  | x :: xs, ys, h => by
    simp only [cAs, Option.bind_eq_some_iff] at h
    obtain ⟨b, hb, bs, hbs, h⟩ := h
    cases h
    exact VRs.cons (arg_ok he hb) (args_ok he hbs)

theorem Gives.same (hr : Rel β D B W s.h w) {v : AV} {V : Value} (hv : VR β D v V) {m : Sem Value} (hm : m.run P w = .ok V w) : Gives P β D B W s s v m w :=
  ⟨β, D, w, V, Ext.refl _ _ _, hr, hv, hm⟩

theorem pure_some {α : Type} {x y : α} {t : S} (h : M.pure x s = some (y, t)) : y = x ∧ t = s := by
  simp only [M.pure] at h
  cases h
  exact ⟨rfl, rfl⟩
theorem bind_some {α γ : Type} {m : M α} {f : α → M γ} {y : γ} {t : S} (h : M.bind m f s = some (y, t)) : ∃ x u, m s = some (x, u) ∧ f x u = some (y, t) := by
  simp only [M.bind] at h
  split at h
  · cases h
  · rename_i x u hx
    exact ⟨x, u, hx, h⟩
theorem ofO_some {α γ : Type} {o : Option α} {f : α → M γ} {y : γ} {t : S} (h : M.ofO o f s = some (y, t)) : ∃ x, o = some x ∧ f x s = some (y, t) := by
  cases o with
  | none => simp [M.ofO, M.no] at h
  | some x => exact ⟨x, rfl, h⟩
theorem ifB_some {α : Type} {b : Bool} {m : M α} {y : α} {t : S} (h : M.ifB b m s = some (y, t)) : b = true ∧ m s = some (y, t) := by
  cases b with
  | false => simp [M.ifB, M.no] at h
  | true => exact ⟨rfl, h⟩
theorem no_some {α : Type} {y : α} {t : S} (h : M.no s = some (y, t)) : False := by simp [M.no] at h
theorem logR_h (s : S) (id : Id) (lo m : Nat) : (M.logR s id lo m).h = s.h ∧ (M.logR s id lo m).n = s.n := by unfold M.logR; split <;> exact ⟨rfl, rfl⟩
theorem logW_h (s : S) (id : Id) (lo m : Nat) : (M.logW s id lo m).h = s.h ∧ (M.logW s id lo m).n = s.n := by unfold M.logW; split <;> exact ⟨rfl, rfl⟩

theorem rd_ok (hr : HR β D B s.h w) {id : Id} {lo m : Nat} {l : List AV} (h : M.rd id lo m s = some (l, s')) :
    s'.h = s.h ∧ s'.n = s.n ∧ l.length = m ∧ ∃ Vs, VRs β D l Vs ∧ Vs.length = m ∧ (∀ j V, Vs[j]? = some V → w.cell? ⟨(β id).blk, (β id).base + lo + j, none⟩ = some V) ∧ (∀ V ∈ Vs, V.oneCell' = true) ∧ ∀ v ∈ l, v.one = true := by
  unfold M.rd at h
  cases h0 : Nat.beq m 0 <;> rw [h0] at h <;> simp only at h
  rotate_left
  · obtain ⟨rfl, rfl⟩ := pure_some h
    obtain rfl : m = 0 := Nat.eq_of_beq_eq_true h0
    exact ⟨rfl, rfl, rfl, [], VRs.nil, rfl, by simp, by simp, by simp⟩
  · split at h
    · cases h
    · rename_i k hk
      split at h
      · rename_i hle
        have hle' : lo + m ≤ k.c.length := Nat.le_of_ble_eq_true hle
        cases h
        obtain ⟨h1, h2⟩ := logR_h s id lo m
        have hm0 : m ≠ 0 := fun e => by subst e; simp at h0
        obtain ⟨Vs, g1, g2, g3, g4, g5⟩ := hr.read hk (hr.notMap hk (by omega)) lo m hle'
        refine ⟨h1, h2, ?_, Vs, g1, g2, g3, g4, g5⟩
        rw [List.length_take, List.length_drop]; omega
      · cases h
theorem wr_ok (hr : HR β D B s.h w) {id : Id} {lo : Nat} {l : List AV} {Vs : List Value} (hl : VRs β D l Vs) (h1 : ∀ v ∈ l, v.one = true) {u : Unit} (h : M.wr id lo l s = some (u, s')) :
    s'.n = s.n ∧ HR β D B s'.h (w.setCells (β id).blk ((β id).base + lo) Vs) ∧ (D id ∨ Vs = []) ∧
      (storeCells ⟨(β id).blk, (β id).base + lo, none⟩ Vs).run P w = .ok () (w.setCells (β id).blk ((β id).base + lo) Vs) := by
  unfold M.wr at h
  cases h0 : l.isEmpty <;> rw [h0] at h <;> simp only at h
  rotate_left
  · obtain ⟨_, rfl⟩ := pure_some h
    obtain rfl : l = [] := by simpa using h0
    simp only [VRs] at hl
    subst hl
    exact ⟨rfl, hr, .inr rfl, rfl⟩
  · split at h
    · cases h
    · rename_i k hk
      split at h
      · rename_i hle
        have hle' : lo + l.length ≤ k.c.length := Nat.le_of_ble_eq_true hle
        cases h
        obtain ⟨g1, g2⟩ := logW_h ⟨s.tr, Heap.put s.h id (some ⟨k.z, k.c.take lo ++ (l ++ k.c.drop (lo + l.length))⟩), s.n, s.r, s.w⟩ id lo l.length
        have hl0 : 0 < l.length := by cases l with
          | nil => simp at h0
          | cons v l => simp
        have hz0 := hr.notMap hk (by omega)
        obtain ⟨hd, c, el, fz, hb, hs, hf, hc, hzk⟩ := hr.cells hk hz0
        have hcf := hc.fit
        have hone : ∀ V ∈ Vs, V.oneCell' = true := fun V hV => by
          obtain ⟨j, hj⟩ := List.getElem?_of_mem hV
          obtain ⟨x, hx, hv⟩ := hl.back j V hj
          exact hv.one (h1 x (List.mem_of_getElem? hx))
        have hst := run_storeCells_cells (P := P) (β id).blk ((β id).base + lo) Vs 0 w
          (fun j hj => (hr.there hk hz0 _ (by rw [hl.length] at hj; omega)).1) (fun j hj => (hr.there hk hz0 _ (by rw [hl.length] at hj; omega)).2) hone
        refine ⟨g2, ?_, .inl hd, by simpa using hst⟩
        rw [g1]
        exact hr.write hk hz0 lo hl h1 hle'
      · cases h
theorem new_ok (hr : HR β D B s.h w) {z : Zf} {l : List AV} {id : Id} (h : M.new z l s = some (id, s')) :
    id = s.n ∧ s'.n.num = s.n.num + 1 ∧ s'.h = Heap.put s.h s.n (some ⟨z, l⟩) := by
  unfold M.new at h
  split at h
  · cases h
  · rename_i n hn
    cases h
    obtain ⟨g1, g2⟩ := logW_h ⟨s.tr, Heap.put s.h s.n (some ⟨z, l⟩), n, s.r, s.w⟩ s.n 0 (l.length + 1)
    exact ⟨rfl, by rw [g2]; exact Id.inc_num hn, g1⟩
theorem shared_ok {id : Id} {z : Zf} (h : M.shared id s = some (z, s')) : s'.h = s.h ∧ s'.n = s.n ∧ ∃ k, s.h id = some k ∧ k.z = z ∧ k.z.m = none := by
  unfold M.shared at h
  split at h
  · cases h
  · rename_i k hk
    split at h
    · cases h
    · rename_i hm
      cases h
      obtain ⟨g1, g2⟩ := logR_h s id k.c.length 1
      exact ⟨g1, g2, k, hk, rfl, hm⟩
theorem ends_ok {id : Id} {z : Zf × Nat} (h : M.ends id s = some (z, s')) : s'.h = s.h ∧ s'.n = s.n ∧ ∃ k, s.h id = some k ∧ k.z = z.1 ∧ k.c.length = z.2 ∧ k.z.m = none := by
  unfold M.ends at h
  split at h
  · cases h
  · rename_i k hk
    split at h
    · cases h
    · rename_i hm
      cases h
      obtain ⟨g1, g2⟩ := logR_h s id k.c.length 1
      exact ⟨g1, g2, k, hk, rfl, rfl, hm⟩

theorem Gives.fresh (hr : Rel β D B W s.h w) {z : Zf} {l : List AV} {id : Id} (h : M.new z l s = some (id, s')) (hf : Fresh D s.n.num s'.n.num) {wd : World} (hz0 : z.m = none) (hw : wd = w ∨ wd = w.drew) (c : Array Value) (el : TypeId) (fz : Nat × Nat) (hfz : fzok z.s fz c.size) (hc : Cells β D c 0 l) (hzn : z.t = true → l.length = c.size)
    {v : AV} {V : Value} {m : Sem Value} (hm : m.run P w = .ok V (wd.alloc (.cells c el fz))) (hv : VR (named β s.n ⟨w.heap.size, 0, c.size⟩) (fun j => D j ∨ j = s.n) v V) : Gives P β D B W s s' v m w := by
  obtain ⟨rfl, hn, hh⟩ := new_ok hr.hr h
  have hd : ¬ D s.n := hf s.n (Nat.le_refl _) (by omega)
  have hrd : HR β D B s.h wd := by rcases hw with rfl | rfl; exact hr.hr; exact Ext.drew_heap hr.hr rfl
  have hsz : wd.heap.size = w.heap.size := by rcases hw with rfl | rfl <;> rfl
  have hbd : Below B W wd := by rcases hw with rfl | rfl; exact hr.bel; exact hr.bel.drew
  refine ⟨_, _, _, V, ?_, ⟨?_, hbd.alloc (by rw [hsz]; exact hr.hr.size) _⟩, hv, hm⟩
  · rw [hn]; exact named_ext β _ hd
  · rw [hh]
    have := hrd.fresh hd z hz0 c el fz hfz hc hzn
    rw [hsz] at this
    exact this
end
end Ev
end Go.Proofs.YthknbcbkibbncaaGreat

/- DERIVED. Numbers of a kind: the evaluator's wrapping is the model's. -/
namespace Go.Proofs.YthknbcbkibbncaaGreat
namespace Ev

theorem low_eq (m : Nat) (hm : 0 < m) (x : Int) : (low m x : Int) = x % (m : Int) := by
  cases x with
  | ofNat a => rfl
  | negSucc a =>
    have e := Int.negSucc_emod a (b := (m : Int)) (by omega)
    have h := Nat.mod_lt a hm
    have e2 : (((a % m : Nat)) : Int) = (a : Int) % (m : Int) := rfl
    show ((m - 1 - a % m : Nat) : Int) = Int.negSucc a % (m : Int)
    rw [e]
    omega
theorem low_lt (m : Nat) (hm : 0 < m) (x : Int) : low m x < m := by
  have h1 := low_eq m hm x
  have h2 := Int.emod_lt_of_pos x (show (0 : Int) < (m : Int) by omega)
  omega
theorem wrapS_eq (m a : Nat) (h : a < m) (hm : m % 2 = 0) : wrapS m a = if (a : Int) ≥ ((m / 2 : Nat) : Int) then (a : Int) - (m : Int) else (a : Int) := by
  unfold wrapS
  cases hb : Nat.ble (Nat.div m 2) a
  · simp only
    have : ¬ (m / 2 ≤ a) := fun h' => by have h3 := Nat.ble_eq_true_of_le h'; rw [show Nat.ble (m / 2) a = Nat.ble (m.div 2) a from rfl, hb] at h3; cases h3
    rw [if_neg (by omega)]
    rfl
  · simp only
    have h2 : m / 2 ≤ a := Nat.le_of_ble_eq_true hb
    rw [if_pos (by omega)]
    show Int.negSucc (m - 1 - a) = _
    rw [Int.negSucc_eq]
    omega
theorem wrap_i (k : IntKind) (x : Int) : wrapF k x = k.wrap x := by
  cases k <;> simp only [wrapF, sgn, md, IntKind.wrap, IntKind.bits, IntKind.signed, Bool.true_and, Bool.false_and, Bool.false_eq_true, if_false]
  · rw [wrapS_eq 256 _ (low_lt 256 (by omega) x) (by omega), low_eq 256 (by omega)]; simp
  · rw [wrapS_eq 65536 _ (low_lt 65536 (by omega) x) (by omega), low_eq 65536 (by omega)]; simp
  · rw [wrapS_eq 4294967296 _ (low_lt 4294967296 (by omega) x) (by omega), low_eq 4294967296 (by omega)]; simp
  · rw [wrapS_eq 18446744073709551616 _ (low_lt 18446744073709551616 (by omega) x) (by omega), low_eq 18446744073709551616 (by omega)]; simp
  · exact low_eq 256 (by omega) x
  · exact low_eq 65536 (by omega) x
  · exact low_eq 4294967296 (by omega) x
  · exact low_eq 18446744073709551616 (by omega) x
theorem ieq_ok (x y : Int) : ieq x y = decide (x = y) := by
  cases x <;> cases y <;> simp only [ieq]
  · rename_i a b
    rw [show Nat.beq a b = decide (a = b) by rw [Bool.eq_iff_iff]; simp]
    simp
    omega
  · simp
  · simp
  · rename_i a b
    rw [show Nat.beq a b = decide (a = b) by rw [Bool.eq_iff_iff]; simp]
    simp
theorem ble_dec (a b : Nat) : Nat.ble a b = decide (a ≤ b) := by rw [Bool.eq_iff_iff]; simp
theorem ile_ok (x y : Int) : ile x y = decide (x ≤ y) := by
  cases x <;> cases y <;> simp only [ile, ble_dec]
  · simp
  · rename_i a b
    rw [Bool.eq_iff_iff]
    simp
    omega
  · rename_i a b
    rw [Bool.eq_iff_iff]
    simp
    omega
  · rename_i a b
    rw [Bool.eq_iff_iff]
    simp
    omega
theorem keq_ok {a b : IntKind} (h : keq a b = true) : a = b := by cases a <;> cases b <;> first | rfl | cases h
theorem bts_ok (k : IntKind) : bts k = k.bits := by cases k <;> rfl
theorem minN_ok (a b : Nat) : minN a b = min a b := by
  unfold minN
  rw [ble_dec]
  by_cases h : a ≤ b
  · simp [h]
  · simp [h]; omega
theorem md_ok (k : IntKind) : md k = 2 ^ k.bits := by cases k <;> rfl
end Ev
end Go.Proofs.YthknbcbkibbncaaGreat

/- DERIVED. The evaluator's operations against the model's: values, places, loads, stores. -/
namespace Go.Proofs.YthknbcbkibbncaaGreat
namespace Ev
open Go.RowKit

section
variable {P : Program} {Y : Ty} {β : Id → CA} {D : Id → Prop} {B N : Nat} {W w : World} {s s' : S} {e : Env} {a : Act}

theorem gives_pure (hr : Rel β D B W s.h w) {x v : AV} {V : Value} (h : M.pure x s = some (v, s')) (hv : VR β D x V) {m : Sem Value} (hm : m.run P w = .ok V w) : Gives P β D B W s s' v m w := by
  obtain ⟨rfl, rfl⟩ := pure_some h
  exact Gives.same hr hv hm

theorem pick_ok (hr : Rel β D B W s.h w) {c x y v : AV} {C X Z : Value} (h : pickF c x y s = some (v, s')) (hc : VR β D c C) (hx : VR β D x X) (hy : VR β D y Z) :
    Gives P β D B W s s' v (do pure (if ← asBool C then X else Z)) w := by
  cases c <;> first | (simp only [pickF, M.no] at h; cases h; done) | skip
  rename_i t
  simp only [VR] at hc
  subst hc
  cases t
  · exact gives_pure hr h hy (by simp [asBool])
  · exact gives_pure hr h hx (by simp [asBool])
theorem fad_ok (hY : TyOk P Y) (hr : Rel β D B W s.h w) {t : TypeId} {fs : Array Field} {j : Nat} {f : Field} {m : Nat} (ht : under Y t = some (.struct fs)) (hj : fs.toList[j]? = some f) (hm : sizeT Y f.type = some m) (hm0 : 1 ≤ m)
    {x v : AV} {X : Value} (h : fadF f.offset x s = some (v, s')) (hx : VR β D x X) : Gives P β D B W s s' v (Instr.fieldAt t X j) w := by
  cases x <;> first | (simp only [fadF, M.no] at h; cases h; done) | skip
  rename_i id off
  simp only [VR] at hx
  obtain ⟨hd, rfl⟩ := hx
  have hj' : fs[j]? = some f := by simpa using hj
  have h0 : ¬ m = 0 := by omega
  refine gives_pure hr h (V := .pointer (some ⟨(β id).blk, (β id).base + (off + f.offset), none⟩)) ?_ ?_
  · simp only [VR]; exact ⟨hd, rfl⟩
  · simp [Instr.fieldAt, run_underlying (under_ok hY ht), hj', Instr.sureAddr, fieldPlace, size_ok hY hm, h0, Addr.add]
    split <;> simp_all [Nat.add_assoc]
theorem ext_ok (hr : Rel β D B W s.h w) {x v : AV} {X : Value} {j : Nat} (h : extF x j s = some (v, s')) (hx : VR β D x X) : Gives P β D B W s s' v (Instr.extract X j) w := by
  cases x <;> first | (simp only [extF, M.no] at h; cases h; done) | skip
  rename_i vs
  simp only [VR] at hx
  obtain ⟨C, rfl, hc⟩ := hx
  obtain ⟨u, hu, h⟩ := ofO_some h
  obtain ⟨U, hU, hv⟩ := hc.get j u hu
  exact gives_pure hr h hv (by simp [Instr.extract, hU])
theorem cvi_ok (hr : Rel β D B W s.h w) {x v : AV} {X : Value} {k : IntKind} (h : cviF k x s = some (v, s')) (hx : VR β D x X) :
    ∃ k' n, X = .int k' n ∧ Gives P β D B W s s' v (Conv.intToInt k n) w := by
  cases x <;> first | (simp only [cviF, M.no] at h; cases h; done) | skip
  rename_i k' n
  simp only [VR] at hx
  subst hx
  exact ⟨k', n, rfl, gives_pure hr h (V := .int k (k.wrap n)) (by simp [VR, wrap_i]) rfl⟩

theorem ld_ok (hY : TyOk P Y) (hr : Rel β D B W s.h w) {t : TypeId} {d : TypeDesc} (ht : under Y t = some d) (hd : isAggD d = false) {x v : AV} {X : Value} (h : ldF x s = some (v, s')) (hx : VR β D x X) :
    Gives P β D B W s s' v (Instr.loadAt t X) w := by
  cases x <;> first | (simp only [ldF, M.no] at h; cases h; done) | skip
  rename_i id off
  simp only [VR] at hx
  obtain ⟨did, rfl⟩ := hx
  obtain ⟨l, u, h1, h2⟩ := bind_some h
  obtain ⟨g1, g2, g3, Vs, g4, g5, g6, g7, g8⟩ := rd_ok hr.hr h1
  match l, h2, g3, g4 with
  | [y], h2, g3, g4 =>
    obtain ⟨rfl, rfl⟩ := pure_some h2
    obtain ⟨V, hV, hv⟩ := g4.get 0 v (by simp)
    have hagg : (isAgg t).run P w = .ok false w := by
      unfold isAgg
      rw [Sem.run_bind, run_underlying (under_ok hY ht)]
      cases d <;> simp_all [isAggD]
    have hc := g6 0 V hV
    refine ⟨β, D, w, V, ?_, ⟨by rw [g1]; exact hr.hr, hr.bel⟩, hv, ?_⟩
    · rw [g2]; exact Ext.refl _ _ _
    · simp only [Nat.add_zero] at hc
      simp [Instr.loadAt, Instr.sureAddr, loadVar, hagg, run_load, hc]
theorem ldn_ok (hY : TyOk P Y) (hr : Rel β D B W s.h w) {t : TypeId} {d : TypeDesc} {m : Nat} (ht : under Y t = some d) (hd : isAggD d = true) (hm : sizeT Y t = some m) {x v : AV} {X : Value} (h : ldnF m x s = some (v, s')) (hx : VR β D x X) :
    Gives P β D B W s s' v (Instr.loadAt t X) w := by
  cases x <;> first | (simp only [ldnF, M.no] at h; cases h; done) | skip
  rename_i id off
  simp only [VR] at hx
  obtain ⟨did, rfl⟩ := hx
  obtain ⟨l, u, h1, h2⟩ := bind_some h
  obtain ⟨g1, g2, g3, Vs, g4, g5, g6, g7, g8⟩ := rd_ok hr.hr h1
  obtain ⟨rfl, rfl⟩ := pure_some h2
  have hagg : (isAgg t).run P w = .ok true w := by
    unfold isAgg
    rw [Sem.run_bind, run_underlying (under_ok hY ht)]
    cases d <;> simp_all [isAggD]
  have hl := run_loadCells_list (P := P) w ⟨(β id).blk, (β id).base + off, none⟩ Vs (fun j V hV => by
    have := g6 j V hV
    have e : (⟨(β id).blk, (β id).base + off, none⟩ : Addr).add j = ⟨(β id).blk, (β id).base + off + j, none⟩ := by unfold Addr.add; split <;> simp_all
    rw [e]; exact this)
  rw [g5] at hl
  refine ⟨β, D, w, .agg Vs.toArray, ?_, ⟨by rw [g1]; exact hr.hr, hr.bel⟩, ?_, ?_⟩
  · rw [g2]; exact Ext.refl _ _ _
  · simp only [VR]; exact ⟨Vs, rfl, g4, g8⟩
  · simp [Instr.loadAt, Instr.sureAddr, loadVar, hagg, size_ok hY hm, hl]
theorem st_ok (hY : TyOk P Y) (hr : Rel β D B W s.h w) {t : TypeId} {m : Nat} (hm : sizeT Y t = some m) {x y v : AV} {X Z : Value} (h : stF m x y s = some (v, s')) (hx : VR β D x X) (hy : VR β D y Z) :
    ∃ w', Rel β D B W s'.h w' ∧ v = und ∧ s'.n = s.n ∧ (Instr.storeAt t X Z).run P w = .ok () w' := by
  cases x <;> first | (simp only [stF, M.no] at h; cases h; done) | skip
  rename_i id off
  simp only [VR] at hx
  obtain ⟨did, rfl⟩ := hx
  obtain ⟨l, hl, h⟩ := ofO_some h
  obtain ⟨hb, h⟩ := ifB_some h
  obtain ⟨u, t', h1, h2⟩ := bind_some h
  obtain ⟨rfl, rfl⟩ := pure_some h2
  have hlm : l.length = m := Nat.eq_of_beq_eq_true hb
  obtain ⟨k1, k2⟩ := hy.cells hl
  obtain ⟨g1, g2, g3, g4⟩ := wr_ok (P := P) hr.hr k1 k2 h1
  refine ⟨_, ⟨g2, setCells_below _ _ (hr.hr.old id did) _ _ _ _ hr.bel⟩, rfl, g1, ?_⟩
  have hsz : Z.cells.size = m := by have := k1.length; simp at this; omega
  simp [Instr.storeAt, Instr.sureAddr, storeVar, size_ok hY hm, hsz, g4]
theorem nil_ok (hr : Rel β D B W s.h w) {x v : AV} {X : Value} (h : nilF x s = some (v, s')) (hx : VR β D x X) : v = x ∧ s' = s ∧
    ((∃ ad, X = .pointer (some ad)) ∨ ∃ fn A C, X = .func (.func fn) A C) := by
  cases x <;> first | (simp only [nilF, M.no] at h; cases h; done) | skip
  · obtain ⟨rfl, rfl⟩ := pure_some h
    simp only [VR] at hx
    exact ⟨rfl, rfl, .inl ⟨_, hx.2⟩⟩
  · obtain ⟨rfl, rfl⟩ := pure_some h
    simp only [VR] at hx
    obtain ⟨A, C, hx, _⟩ := hx
    exact ⟨rfl, rfl, .inr ⟨_, _, _, hx⟩⟩
end
end Ev
end Go.Proofs.YthknbcbkibbncaaGreat

/- DERIVED. The evaluator's operations against the model's: numbers, equality, lengths. -/
namespace Go.Proofs.YthknbcbkibbncaaGreat
namespace Ev
open Go.RowKit

section
variable {P : Program} {Y : Ty} {β : Id → CA} {D : Id → Prop} {B N : Nat} {W w : World} {s s' : S} {e : Env} {a : Act}

theorem bv_nat (n a : Nat) (h : a < 2 ^ n) : (BitVec.ofInt n (a : Int)).toNat = a := by
  simp [BitVec.toNat_ofInt]
  exact Nat.mod_eq_of_lt h

theorem ofO_pure {o : Option AV} {v : AV} (h : M.ofO o M.pure s = some (v, s')) : o = some v ∧ s' = s := by
  obtain ⟨x, hx, h⟩ := ofO_some h
  obtain ⟨rfl, rfl⟩ := pure_some h
  exact ⟨hx, rfl⟩
theorem int_ok {o : BinOp} {k k' : IntKind} {x y : Int} {v : AV} (t : TypeId) (h : intF o k x k' y s = some (v, s')) : s' = s ∧ ∃ V, VR β D v V ∧ ∀ w, (binOp o t (.int k x) (.int k' y)).run P w = .ok V w := by
  have sh : ∀ (op : BinOp), op = .shl ∨ op = .shr → ∀ v, (if op = .shl then shl k x y else shr k x y) = some v → ∃ V, VR β D v V ∧ ∀ w, (Op.shift op k x k' y).run P w = .ok V w := by
    intro op hop v hv
    cases y with
    | negSucc b => rcases hop with rfl | rfl <;> simp [shl, shr] at hv
    | ofNat b =>
      have hneg : ¬ ((b : Int) < 0) := by omega
      rcases hop with rfl | rfl
      · simp only [if_true, shl] at hv
        cases hv
        refine ⟨_, by simp only [VR]; rfl, fun w => ?_⟩
        simp only [Op.shift, Int.ofNat_eq_natCast, if_neg hneg]
        simp [wrap_i, minN_ok, bts_ok]
      · simp only [reduceCtorEq, if_false, shr] at hv
        cases x with
        | negSucc a => cases hv
        | ofNat a =>
          simp only [Option.some.injEq] at hv
          cases hv
          refine ⟨_, by simp only [VR]; rfl, fun w => ?_⟩
          simp only [Op.shift, Int.ofNat_eq_natCast, if_neg hneg]
          simp [minN_ok, bts_ok]
          have e := Int.ofNat_fdiv a (2 ^ min b k.bits)
          rw [Int.natCast_pow] at e
          exact e.symm
  by_cases h1 : o = .shl
  · subst h1
    have g : M.ofO (shl k x y) M.pure s = some (v, s') := h
    obtain ⟨g2, rfl⟩ := ofO_pure g
    exact ⟨rfl, sh .shl (.inl rfl) v (by simpa using g2)⟩
  by_cases h2 : o = .shr
  · subst h2
    have g : M.ofO (shr k x y) M.pure s = some (v, s') := h
    obtain ⟨g2, rfl⟩ := ofO_pure g
    exact ⟨rfl, sh .shr (.inr rfl) v (by simpa using g2)⟩
  have h' : M.ifB (keq k k') (M.ofO (ari o k x y) M.pure) s = some (v, s') := by cases o <;> first | exact h | exact absurd rfl h1 | exact absurd rfl h2
  obtain ⟨hk, h3⟩ := ifB_some h'
  clear h h'
  obtain ⟨h', rfl⟩ := ofO_pure h3
  clear h3
  obtain rfl := keq_ok hk
  clear hk
  refine ⟨rfl, ?_⟩
  have bits : ∀ (f : Nat → Nat → Nat) (g : BitVec k.bits → BitVec k.bits → BitVec k.bits) (_ : ∀ p q, (g p q).toNat = f p.toNat q.toNat), ∀ a b : Nat, (Nat.blt a (md k) && Nat.blt b (md k)) = true → wrapF k (.ofNat (f a b)) = k.wrap ((g (BitVec.ofInt k.bits (a : Int)) (BitVec.ofInt k.bits (b : Int))).toNat : Int) := by
    intro f g hg a b hb
    simp only [Bool.and_eq_true] at hb
    have ha : a < 2 ^ k.bits := by rw [← md_ok]; exact Nat.le_of_ble_eq_true hb.1
    have hb' : b < 2 ^ k.bits := by rw [← md_ok]; exact Nat.le_of_ble_eq_true hb.2
    rw [wrap_i, hg, bv_nat _ _ ha, bv_nat _ _ hb']
    rfl
  cases o <;> simp only [ari] at h' <;> first
    | (exact absurd rfl h1)
    | (exact absurd rfl h2)
    | (cases h'; done)
    | skip
  · cases h'; exact ⟨_, by simp only [VR]; rfl, fun w => by simp [binOp, Op.intArith, wrap_i]⟩
  · cases h'; exact ⟨_, by simp only [VR]; rfl, fun w => by simp [binOp, Op.intArith, wrap_i]; rfl⟩
  · cases h'; exact ⟨_, by simp only [VR]; rfl, fun w => by simp [binOp, Op.intArith, wrap_i]⟩
  · rw [ieq_ok] at h'
    by_cases hy : y = 0
    · simp [hy] at h'
    · simp [hy] at h'
      cases h'
      exact ⟨_, by simp only [VR]; rfl, fun w => by simp [binOp, Op.intDiv, hy, wrap_i]⟩
  · rw [ieq_ok] at h'
    by_cases hy : y = 0
    · simp [hy] at h'
    · simp [hy] at h'
      cases h'
      exact ⟨_, by simp only [VR]; rfl, fun w => by simp [binOp, Op.intDiv, hy]⟩
  · cases x with
    | negSucc a => cases h'
    | ofNat a => cases y with
      | negSucc b => cases h'
      | ofNat b =>
        simp only at h'
        cases hb : (Nat.blt a (md k) && Nat.blt b (md k)) <;> rw [hb] at h' <;> simp only at h'
        · cases h'
        · cases h'
          refine ⟨_, by simp only [VR]; rfl, fun w => ?_⟩
          rw [bits Nat.land (fun p q => p &&& q) (fun p q => BitVec.toNat_and p q) a b hb]
          simp [binOp, Op.intBits]
  · cases x with
    | negSucc a => cases h'
    | ofNat a => cases y with
      | negSucc b => cases h'
      | ofNat b =>
        simp only at h'
        cases hb : (Nat.blt a (md k) && Nat.blt b (md k)) <;> rw [hb] at h' <;> simp only at h'
        · cases h'
        · cases h'
          refine ⟨_, by simp only [VR]; rfl, fun w => ?_⟩
          rw [bits Nat.lor (fun p q => p ||| q) (fun p q => BitVec.toNat_or p q) a b hb]
          simp [binOp, Op.intBits]
  · cases x with
    | negSucc a => cases h'
    | ofNat a => cases y with
      | negSucc b => cases h'
      | ofNat b =>
        simp only at h'
        cases hb : (Nat.blt a (md k) && Nat.blt b (md k)) <;> rw [hb] at h' <;> simp only at h'
        · cases h'
        · cases h'
          refine ⟨_, by simp only [VR]; rfl, fun w => ?_⟩
          rw [bits Nat.xor (fun p q => p ^^^ q) (fun p q => BitVec.toNat_xor p q) a b hb]
          simp [binOp, Op.intBits]
  · cases x with
    | negSucc a => cases h'
    | ofNat a => cases y with
      | negSucc b => cases h'
      | ofNat b =>
        simp only at h'
        cases hb : (Nat.blt a (md k) && Nat.blt b (md k)) <;> rw [hb] at h' <;> simp only at h'
        · cases h'
        · cases h'
          refine ⟨_, by simp only [VR]; rfl, fun w => ?_⟩
          have hg : ∀ p q : BitVec k.bits, (p &&& ~~~q).toNat = Nat.xor p.toNat (Nat.land p.toNat q.toNat) := fun p q => by
            have e : p &&& ~~~q = p ^^^ (p &&& q) := by
              ext i hi
              simp
              cases p[i] <;> cases q[i] <;> rfl
            rw [e, BitVec.toNat_xor, BitVec.toNat_and]
            rfl
          rw [bits (fun a b => Nat.xor a (Nat.land a b)) (fun p q => p &&& ~~~q) hg a b hb]
          simp [binOp, Op.intBits]
  all_goals
    cases h'
    refine ⟨_, by simp only [VR]; rfl, fun w => ?_⟩
    simp [binOp, Op.intCmp, ieq_ok, ile_ok]
    try first | rfl | (rw [Bool.eq_iff_iff]; simp; done) | (rw [Bool.eq_iff_iff]; simp; omega)
end
end Ev
end Go.Proofs.YthknbcbkibbncaaGreat

/- DERIVED. The evaluator's operations against the model's: equality, texts, lengths, the least and the greatest. -/
namespace Go.Proofs.YthknbcbkibbncaaGreat
namespace Ev
open Go.RowKit

section
variable {P : Program} {Y : Ty} {β : Id → CA} {D : Id → Prop} {B N : Nat} {W w : World} {s s' : S} {e : Env} {a : Act}

def EqOp (o : BinOp) (ng : Bool) : Prop := o = .eql ∧ ng = false ∨ o = .neq ∧ ng = true

theorem guard_free {o : BinOp} {t : TypeId} {x y : Operand} {X Z : Value} (h1 : X ≠ .nilIface) (h2 : ∀ c, X ≠ .agg c) (w : World) : (eqGuard o t x y X Z).run P w = .ok () w := by
  cases o <;> simp only [eqGuard] <;> try rfl
  all_goals
    cases X <;> first | (exact absurd rfl h1) | (exact absurd rfl (h2 _)) | skip
    all_goals (cases Z <;> simp)
theorem eq_of_run {o : BinOp} {ng r : Bool} (ho : EqOp o ng) {t : TypeId} {x y : Operand} {X Z : Value} (h1 : X ≠ .nilIface) (h2 : ∀ c, X ≠ .agg c)
    (he : binOp .eql t X Z = (do pure (.bool (← Op.equal t X Z)))) (hn : binOp .neq t X Z = (do pure (.bool (!(← Op.equal t X Z))))) (h : (Op.equal t X Z).run P w = .ok r w) :
    (do eqGuard o t x y X Z; binOp o t X Z : Sem Value).run P w = .ok (.bool (ng != r)) w := by
  rw [Sem.run_bind, guard_free h1 h2]
  simp only [Result.andThen_ok]
  rcases ho with ⟨rfl, rfl⟩ | ⟨rfl, rfl⟩
  · rw [he, Sem.run_bind, h]; simp
  · rw [hn, Sem.run_bind, h]; simp

def Same (s s' : S) : Prop := s'.h = s.h ∧ s'.n = s.n
theorem Same.gives (h : Same s s') (hr : Rel β D B W s.h w) {v : AV} {V : Value} (hv : VR β D v V) {m : Sem Value} (hm : m.run P w = .ok V w) : Gives P β D B W s s' v m w :=
  ⟨β, D, w, V, by rw [h.2]; exact Ext.refl _ _ _, ⟨by rw [h.1]; exact hr.hr, hr.bel⟩, hv, hm⟩

theorem eqd {t : TypeId} {X Z : Value} {r : Bool} (h : ∀ d, (Op.equalIn (d + 1) t X Z).run P w = .ok r w) : (Op.equal t X Z).run P w = .ok r w := h 9999

theorem eqP_ok (hr : HR β D B s.h w) {i j : Id} {p q : Nat} {r : Bool} (h : eqP i p j q s = some (r, s')) :
    Same s s' ∧ (sameAddr ⟨(β i).blk, (β i).base + p, none⟩ ⟨(β j).blk, (β j).base + q, none⟩).run P w = .ok r w := by
  unfold eqP at h
  cases hb : Nat.beq i.num j.num <;> rw [hb] at h <;> simp only at h
  · obtain ⟨z, u, h1, h⟩ := bind_some h
    obtain ⟨z', u', h2, h⟩ := bind_some h
    obtain ⟨hz, h⟩ := ifB_some h
    obtain ⟨rfl, rfl⟩ := pure_some h
    obtain ⟨a1, a2, k, hk, rfl, hm1⟩ := shared_ok h1
    obtain ⟨b1, b2, k', hk', rfl, hm2⟩ := shared_ok h2
    rw [a1] at hk'
    have hz' : k.z.s = false ∧ k'.z.s = false := by simpa using hz
    refine ⟨⟨b1.trans a1, b2.trans a2⟩, ?_⟩
    obtain ⟨_, c, el, fz, g1, g2, g3, _⟩ := hr.cells hk hm1
    obtain ⟨_, c', el', fz', g1', g2', g3', _⟩ := hr.cells hk' hm2
    rw [hz'.1] at g3
    rw [hz'.2] at g3'
    simp only [fzok] at g3 g3'
    subst g3 g3'
    refine run_sameAddr_other w ?_ g1 g1'
    intro he
    have hblk : (β i).blk = (β j).blk := congrArg Addr.block he
    have hij := hr.inj i j (by rw [hk]; simp) (by rw [hk']; simp) hblk
    rw [hij] at hb
    simp at hb
  · obtain rfl := Id.num_inj (Nat.eq_of_beq_eq_true hb)
    obtain ⟨rfl, rfl⟩ := pure_some h
    refine ⟨⟨rfl, rfl⟩, ?_⟩
    simp only [sameAddr]
    by_cases hp : p = q
    · subst hp; simp
    · have e : Nat.beq p q = false := by cases hb2 : Nat.beq p q; rfl; exact absurd (Nat.eq_of_beq_eq_true hb2) hp
      rw [e]
      simp [hp]

theorem eq_ok (hY : TyOk P Y) (hr : Rel β D B W s.h w) {o : BinOp} {ng : Bool} (ho : EqOp o ng) {t : TypeId} {d : TypeDesc} {kd : Nat} (ht : under Y t = some d) (hk : eqD Y t d = some kd) {x y v : AV} {X Z : Value} {xo yo : Operand}
    (h : eqN kd ng x y s = some (v, s')) (hx : VR β D x X) (hy : VR β D y Z) : Gives P β D B W s s' v (do eqGuard o t xo yo X Z; binOp o t X Z) w := by
  obtain ⟨r, u, h, h'⟩ := bind_some h
  obtain ⟨rfl, rfl⟩ := pure_some h'
  have hu := under_ok hY ht
  have fin : ∀ {r : Bool}, Same s s' → X ≠ .nilIface → (∀ c, X ≠ .agg c) → binOp .eql t X Z = (do pure (.bool (← Op.equal t X Z))) → binOp .neq t X Z = (do pure (.bool (!(← Op.equal t X Z)))) → (Op.equal t X Z).run P w = .ok r w →
      Gives P β D B W s s' (.b (ng != r)) (do eqGuard o t xo yo X Z; binOp o t X Z) w := fun hs h1 h2 h3 h4 h5 =>
    hs.gives hr (by simp only [VR]) (eq_of_run ho h1 h2 h3 h4 h5)
  cases d <;> simp only [eqD] at hk <;> try (cases hk; done)
  · -- bool
    cases hk
    simp only [eqK] at h
    cases x <;> first | (simp only [eqB, M.no] at h; cases h; done) | skip
    cases y <;> first | (simp only [eqB, M.no] at h; cases h; done) | skip
    obtain ⟨rfl, rfl⟩ := pure_some h
    simp only [VR] at hx hy
    subst hx hy
    exact fin ⟨rfl, rfl⟩ (by simp) (by simp) rfl rfl (run_equal_bool w t _ _ hu)
  · -- pointer
    rename_i el
    rw [Option.bind_eq_some_iff] at hk
    obtain ⟨m, hm, hk⟩ := hk
    cases m with
    | zero => cases hk
    | succ m =>
    simp only [Option.some.injEq] at hk
    subst hk
    simp only [eqK] at h
    cases x <;> first | (simp only [eqQ, M.no] at h; cases h; done) | skip
    · cases y <;> first | (simp only [eqQ, M.no] at h; cases h; done) | skip
      · obtain ⟨rfl, rfl⟩ := pure_some h
        simp only [VR] at hx hy
        subst hx hy
        exact fin ⟨rfl, rfl⟩ (by simp) (by simp) rfl rfl (eqd fun dd => by simp [Op.equalIn, run_underlying hu])
      · obtain ⟨rfl, rfl⟩ := pure_some h
        simp only [VR] at hx hy
        obtain ⟨_, rfl⟩ := hy
        subst hx
        exact fin ⟨rfl, rfl⟩ (by simp) (by simp) rfl rfl (eqd fun dd => by simp [Op.equalIn, run_underlying hu])
    · cases y <;> first | (simp only [eqQ, M.no] at h; cases h; done) | skip
      · obtain ⟨rfl, rfl⟩ := pure_some h
        simp only [VR] at hx hy
        obtain ⟨_, rfl⟩ := hx
        subst hy
        exact fin ⟨rfl, rfl⟩ (by simp) (by simp) rfl rfl (eqd fun dd => by simp [Op.equalIn, run_underlying hu])
      · simp only [VR] at hx hy
        obtain ⟨_, rfl⟩ := hx
        obtain ⟨_, rfl⟩ := hy
        obtain ⟨hs, hrun⟩ := eqP_ok (P := P) hr.hr h
        refine fin hs (by simp) (by simp) rfl rfl (eqd fun dd => ?_)
        simp [Op.equalIn, run_underlying hu, size_ok hY hm, hrun]
  · -- slice
    rename_i el
    cases hk
    simp only [eqK] at h
    have nil2 : ∀ (p : Option Addr) (l c : Nat), (Op.equal t (.slice p l c) (.slice none 0 0)).run P w = .ok p.isNone w := fun p l c => run_equal_slice_nil w t el p l c hu
    have nil1 : ∀ (p : Option Addr) (l c : Nat), (Op.equal t (.slice none 0 0) (.slice p l c)).run P w = .ok p.isNone w := fun p l c => by
      refine eqd fun dd => ?_
      simp [Op.equalIn, run_underlying hu]
    cases x <;> first | (simp only [eqS, M.no] at h; cases h; done) | skip
    · cases y <;> first | (simp only [eqS, M.no] at h; cases h; done) | skip
      · obtain ⟨rfl, rfl⟩ := pure_some h
        simp only [VR] at hx hy
        subst hx hy
        exact fin ⟨rfl, rfl⟩ (by simp) (by simp) rfl rfl (nil2 _ _ _)
      · obtain ⟨rfl, rfl⟩ := pure_some h
        simp only [VR] at hx hy
        obtain ⟨_, rfl⟩ := hy
        subst hx
        exact fin ⟨rfl, rfl⟩ (by simp) (by simp) rfl rfl (nil1 _ _ _)
      · obtain ⟨rfl, rfl⟩ := pure_some h
        simp only [VR] at hx hy
        obtain ⟨_, _, q, cap, rfl, _⟩ := hy
        subst hx
        exact fin ⟨rfl, rfl⟩ (by simp) (by simp) rfl rfl (nil1 _ _ _)
    · cases y <;> first | (simp only [eqS, M.no] at h; cases h; done) | skip
      obtain ⟨rfl, rfl⟩ := pure_some h
      simp only [VR] at hx hy
      obtain ⟨_, rfl⟩ := hx
      subst hy
      exact fin ⟨rfl, rfl⟩ (by simp) (by simp) rfl rfl (nil2 _ _ _)
    · cases y <;> first | (simp only [eqS, M.no] at h; cases h; done) | skip
      obtain ⟨rfl, rfl⟩ := pure_some h
      simp only [VR] at hx hy
      obtain ⟨_, _, q, cap, rfl, _⟩ := hx
      subst hy
      exact fin ⟨rfl, rfl⟩ (by simp) (by simp) rfl rfl (nil2 _ _ _)
  · -- an array
    rw [Option.bind_eq_some_iff] at hk
    obtain ⟨_, hq, hk⟩ := hk
    rw [Option.bind_eq_some_iff] at hk
    obtain ⟨m, hm, hk⟩ := hk
    cases hk
    have hq' : Y.q t = true := by cases hb : Y.q t <;> simp [guardB, hb] at hq ⊢
    simp only [eqK] at h
    cases x <;> first | (simp only [eqG, M.no] at h; cases h; done) | skip
    cases y <;> first | (simp only [eqG, M.no] at h; cases h; done) | skip
    rename_i xs ys h0
    have hl : xs.length = m := by
      cases hb : Nat.beq xs.length m with
      | true => exact Nat.eq_of_beq_eq_true hb
      | false => simp only [eqG, hb, M.no] at h; cases h
    subst hl
    simp only [eqG, Nat.beq_refl] at h
    obtain ⟨r', hr', h⟩ := ofO_some h
    obtain ⟨rfl, rfl⟩ := pure_some h
    simp only [VR] at hx hy
    obtain ⟨C, rfl, hC, _⟩ := hx
    obtain ⟨C', rfl, hC', _⟩ := hy
    exact Same.gives ⟨rfl, rfl⟩ hr (by simp only [VR]) (hY.q t hq' o ng ho β D _ _ _ _ r hC hC' hm hr' xo yo w)
  · -- a struct
    rw [Option.bind_eq_some_iff] at hk
    obtain ⟨_, hq, hk⟩ := hk
    rw [Option.bind_eq_some_iff] at hk
    obtain ⟨m, hm, hk⟩ := hk
    cases hk
    have hq' : Y.q t = true := by cases hb : Y.q t <;> simp [guardB, hb] at hq ⊢
    simp only [eqK] at h
    cases x <;> first | (simp only [eqG, M.no] at h; cases h; done) | skip
    cases y <;> first | (simp only [eqG, M.no] at h; cases h; done) | skip
    rename_i xs ys h0
    have hl : xs.length = m := by
      cases hb : Nat.beq xs.length m with
      | true => exact Nat.eq_of_beq_eq_true hb
      | false => simp only [eqG, hb, M.no] at h; cases h
    subst hl
    simp only [eqG, Nat.beq_refl] at h
    obtain ⟨r', hr', h⟩ := ofO_some h
    obtain ⟨rfl, rfl⟩ := pure_some h
    simp only [VR] at hx hy
    obtain ⟨C, rfl, hC, _⟩ := hx
    obtain ⟨C', rfl, hC', _⟩ := hy
    exact Same.gives ⟨rfl, rfl⟩ hr (by simp only [VR]) (hY.q t hq' o ng ho β D _ _ _ _ r hC hC' hm hr' xo yo w)
  · -- a function
    cases hk
    simp only [eqK] at h
    cases x <;> first | (simp only [eqF, M.no] at h; cases h; done) | skip
    · cases y <;> first | (simp only [eqF, M.no] at h; cases h; done) | skip
      · obtain ⟨rfl, rfl⟩ := pure_some h
        simp only [VR] at hx hy
        subst hx hy
        exact fin ⟨rfl, rfl⟩ (by simp) (by simp) rfl rfl (eqd fun dd => by simp [Op.equalIn, run_underlying hu])
      · obtain ⟨rfl, rfl⟩ := pure_some h
        simp only [VR] at hx hy
        obtain ⟨_, _, rfl, _⟩ := hy
        subst hx
        exact fin ⟨rfl, rfl⟩ (by simp) (by simp) rfl rfl (eqd fun dd => by simp [Op.equalIn, run_underlying hu])
    · cases y <;> first | (simp only [eqF, M.no] at h; cases h; done) | skip
      obtain ⟨rfl, rfl⟩ := pure_some h
      simp only [VR] at hx hy
      obtain ⟨_, _, rfl, _⟩ := hx
      subst hy
      exact fin ⟨rfl, rfl⟩ (by simp) (by simp) rfl rfl (eqd fun dd => by simp [Op.equalIn, run_underlying hu])
end
end Ev
end Go.Proofs.YthknbcbkibbncaaGreat

/- DERIVED. The evaluator's operations against the model's: texts, lengths, the least and the greatest, slices, places. -/
namespace Go.Proofs.YthknbcbkibbncaaGreat
namespace Ev
open Go.RowKit

section
variable {P : Program} {Y : Ty} {β : Id → CA} {D : Id → Prop} {B N : Nat} {W w : World} {s s' : S} {e : Env} {a : Act}

theorem natOf_ok {v : AV} {n : Nat} {V : Value} (h : natOf v = some n) (hv : VR β D v V) : ∃ k, V = .int k n := by
  cases v <;> simp only [natOf] at h <;> try (cases h; done)
  rename_i k x
  cases x <;> simp only at h <;> cases h
  simp only [VR] at hv
  exact ⟨k, hv⟩
theorem bytes_inj : ∀ {x y : List Nat}, (∀ b ∈ x, b < 256) → (∀ b ∈ y, b < 256) → x.map UInt8.ofNat = y.map UInt8.ofNat → x = y
  | [], [], _, _, _ => rfl
  | [], _ :: _, _, _, h => by cases h
  | _ :: _, [], _, _, h => by cases h
  | a :: x, b :: y, hx, hy, h => by
    simp only [List.map_cons, List.cons.injEq] at h
    have ha := hx a (by simp)
    have hb := hy b (by simp)
    have e : a = b := by
      have := congrArg UInt8.toNat h.1
      simp only [UInt8.toNat_ofNat'] at this
      omega
    rw [e, bytes_inj (fun c hc => hx c (by simp [hc])) (fun c hc => hy c (by simp [hc])) h.2]
theorem eqL_ok : ∀ (x y : List Nat), eqL x y = decide (x = y)
  | [], [] => by simp [eqL]
  | [], _ :: _ => by simp [eqL]
  | _ :: _, [] => by simp [eqL]
  | a :: x, b :: y => by
    simp only [eqL]
    cases hb : Nat.beq a b
    · have : a ≠ b := fun e => by subst e; simp at hb
      simp [this]
    · have := Nat.eq_of_beq_eq_true hb
      simp only [eqL_ok x y]
      simp [this]
theorem str_ok (hr : Rel β D B W s.h w) {o : BinOp} {t : TypeId} {x : List Nat} {y v : AV} {X Z : Value} {xo yo : Operand}
    (h : strF o x y s = some (v, s')) (hx : VR β D (.s x) X) (hy : VR β D y Z) : Gives P β D B W s s' v (do eqGuard o t xo yo X Z; binOp o t X Z) w := by
  cases y <;> first | (simp only [strF, M.no] at h; cases h; done) | skip
  rename_i y
  simp only [VR] at hx hy
  obtain ⟨rfl, hx⟩ := hx
  obtain ⟨rfl, hy⟩ := hy
  have hg : ∀ o, (eqGuard o t xo yo (.string ⟨(x.map UInt8.ofNat).toArray⟩) (.string ⟨(y.map UInt8.ofNat).toArray⟩)).run P w = .ok () w := fun o => guard_free (by simp) (by simp) w
  have he : (List.map UInt8.ofNat x == List.map UInt8.ofNat y) = eqL x y := by
    rw [eqL_ok, Bool.eq_iff_iff]
    simp only [beq_iff_eq, decide_eq_true_eq]
    exact ⟨bytes_inj hx hy, fun e => by rw [e]⟩
  cases o <;> first | (simp only [strF, M.no] at h; cases h; done) | skip
  · obtain ⟨hb, h⟩ := ifB_some h
    obtain ⟨rfl, rfl⟩ := pure_some h
    have hle : x.length + y.length ≤ 1048576 := Nat.le_of_ble_eq_true hb
    refine Gives.same hr (V := .string (⟨(x.map UInt8.ofNat).toArray⟩ ++ ⟨(y.map UInt8.ofNat).toArray⟩)) ?_ ?_
    · simp only [VR]
      refine ⟨?_, fun b hb => by rcases List.mem_append.1 hb with h | h; exact hx b h; exact hy b h⟩
      congr 1
      apply ByteArray.ext
      simp [ByteArray.data_append]
    · rw [Sem.run_bind, hg]
      have hsz : ¬ (9223372036854775807 < ((x.length : Int) + (y.length : Int))) := by omega
      simp [binOp, Op.stringOp, ByteArray.size, hsz]
  · obtain ⟨rfl, rfl⟩ := pure_some h
    exact Gives.same hr (V := .bool (eqL x y)) (by simp only [VR]) (by rw [Sem.run_bind, hg]; simp [binOp, Op.stringOp, he])
  · obtain ⟨rfl, rfl⟩ := pure_some h
    exact Gives.same hr (V := .bool (!eqL x y)) (by simp only [VR]) (by rw [Sem.run_bind, hg]; simp [binOp, Op.stringOp]; rw [← he])
theorem bin_ok (hr : Rel β D B W s.h w) {o : BinOp} {t : TypeId} {x y v : AV} {X Z : Value} {xo yo : Operand}
    (h : binF o x y s = some (v, s')) (hx : VR β D x X) (hy : VR β D y Z) : Gives P β D B W s s' v (do eqGuard o t xo yo X Z; binOp o t X Z) w := by
  cases x <;> first | (simp only [binF, M.no] at h; cases h; done) | skip
  · cases y <;> first | (simp only [binF, M.no] at h; cases h; done) | skip
    have hx' := hx
    have hy' := hy
    simp only [VR] at hx' hy'
    subst hx' hy'
    obtain ⟨rfl, V, hV, hrun⟩ := int_ok (P := P) (β := β) (D := D) t h
    exact Gives.same hr hV (by rw [Sem.run_bind, guard_free (by simp) (by simp)]; exact hrun w)
  · exact str_ok hr h hx hy
theorem un_ok (hr : Rel β D B W s.h w) {o : UnOp} {x v : AV} {X : Value} (h : M.ofO (unF o x) M.pure s = some (v, s')) (hx : VR β D x X) : Gives P β D B W s s' v (Op.unary o X) w := by
  obtain ⟨h, rfl⟩ := ofO_pure h
  cases o <;> simp only [unF] at h <;> try (cases h; done)
  · cases x <;> simp only at h <;> cases h
    simp only [VR] at hx
    subst hx
    exact Gives.same hr (by simp only [VR]; rfl) (by simp [Op.unary, Op.intArith, wrap_i]; rw [show Int.sub 0 _ = 0 - _ from rfl, Int.zero_sub])
  · cases x <;> simp only at h <;> cases h
    simp only [VR] at hx
    subst hx
    exact Gives.same hr (by simp only [VR]; rfl) (by simp [Op.unary])
theorem mm_ok (mx : Bool) : ∀ (l : List AV) (L : List Value) (x v : AV) (X : Value), mmF mx x l = some v → VRs β D l L → VR β D x X →
    ∃ V, VR β D v V ∧ (L.foldlM (if mx then Builtin.max2 else Builtin.min2) X).run P w = .ok V w
  | [], L, x, v, X, h, hl, hx => by
    simp only [VRs] at hl
    subst hl
    simp only [mmF] at h
    cases h
    exact ⟨X, hx, by simp [Sem.run_pure]⟩
  | y :: l, L, x, v, X, h, hl, hx => by
    simp only [VRs] at hl
    obtain ⟨Z, L', rfl, hy, hl⟩ := hl
    cases x <;> simp only [mmF] at h <;> try (cases h; done)
    rename_i k p
    cases y <;> simp only at h <;> try (cases h; done)
    rename_i k' q
    simp only [VR] at hx hy
    subst hx hy
    obtain ⟨V, hV, hrun⟩ := mm_ok mx l L' _ v (.int k (mm2 mx p q)) h hl (by simp only [VR])
    refine ⟨V, hV, ?_⟩
    rw [List.foldlM_cons, Sem.run_bind]
    have e : ((if mx then Builtin.max2 else Builtin.min2) (.int k p) (.int k' q)).run P w = .ok (.int k (mm2 mx p q)) w := by
      cases mx
      · simp only [Bool.false_eq_true, if_false, Builtin.min2, mm2, ile_ok]
        by_cases hpq : p ≤ q
        · simp [hpq]; omega
        · simp [hpq]
      · simp only [if_true, Builtin.max2, mm2, ile_ok]
        by_cases hpq : q ≤ p
        · simp [hpq]; omega
        · simp [hpq]
    rw [e]
    exact hrun
end
end Ev
end Go.Proofs.YthknbcbkibbncaaGreat

/- DERIVED. The evaluator's operations against the model's: lengths, slices, places, turnings. -/
namespace Go.Proofs.YthknbcbkibbncaaGreat
namespace Ev
open Go.RowKit

section
variable {P : Program} {Y : Ty} {β : Id → CA} {D : Id → Prop} {B N : Nat} {W w : World} {s s' : S} {e : Env} {a : Act}

theorem len_ok (hr : Rel β D B W s.h w) {t ty : TypeId} {el : TypeId} (ht : P.underlying t = some (.slice el)) {x v : AV} {X : Value} (h : M.ofO (lenF x) M.pure s = some (v, s')) (hx : VR β D x X) :
    Gives P β D B W s s' v (Builtin.len_ #[t] ty #[X]) w := by
  have h0 := ofO_pure h
  clear h
  obtain ⟨h, rfl⟩ := h0
  cases x <;> simp only [lenF] at h <;> try (cases h; done)
  all_goals
    cases h
    simp only [VR] at hx
  · subst hx
    exact Gives.same hr (by simp only [VR]; rfl) (by simp [Builtin.len_, run_underlying ht, goInt])
  · obtain ⟨_, rfl⟩ := hx
    exact Gives.same hr (by simp only [VR]; rfl) (by simp [Builtin.len_, run_underlying ht, goInt])
  · obtain ⟨_, _, q, cap, rfl, _⟩ := hx
    exact Gives.same hr (by simp only [VR]; rfl) (by simp [Builtin.len_, run_underlying ht, goInt])
theorem lns_ok (hr : Rel β D B W s.h w) {t ty : TypeId} (ht : P.underlying t = some .string) {x v : AV} {X : Value} (h : M.ofO (lnsF x) M.pure s = some (v, s')) (hx : VR β D x X) :
    Gives P β D B W s s' v (Builtin.len_ #[t] ty #[X]) w := by
  have h0 := ofO_pure h
  clear h
  obtain ⟨h, rfl⟩ := h0
  cases x <;> simp only [lnsF] at h <;> try (cases h; done)
  rename_i x
  cases h
  simp only [VR] at hx
  obtain ⟨rfl, _⟩ := hx
  have hsz : (⟨(x.map UInt8.ofNat).toArray⟩ : ByteArray).size = x.length := by show (List.map UInt8.ofNat x).toArray.size = _; simp
  exact Gives.same hr (by simp only [VR]; rfl) (by simp [Builtin.len_, run_underlying ht, goInt, hsz])
theorem lenA_ok (hr : Rel β D B W s.h w) {t ty el : TypeId} {n : Nat} (ht : P.underlying t = some (.array n el)) {X : Value} : Gives P β D B W s s (.i .i64 (.ofNat n)) (Builtin.len_ #[t] ty #[X]) w :=
  Gives.same hr (by simp only [VR]; rfl) (by simp [Builtin.len_, run_underlying ht, goInt])
theorem cap_ok (hr : Rel β D B W s.h w) {t ty : TypeId} {el : TypeId} (ht : P.underlying t = some (.slice el)) {x v : AV} {X : Value} (h : M.ofO (capF x) M.pure s = some (v, s')) (hx : VR β D x X) :
    Gives P β D B W s s' v (Builtin.cap_ #[t] ty #[X]) w := by
  have h0 := ofO_pure h
  clear h
  obtain ⟨h, rfl⟩ := h0
  cases x <;> simp only [capF] at h <;> try (cases h; done)
  all_goals
    cases h
    simp only [VR] at hx
  · subst hx
    exact Gives.same hr (by simp only [VR]; rfl) (by simp [Builtin.cap_, run_underlying ht, goInt])
  · obtain ⟨_, rfl⟩ := hx
    exact Gives.same hr (by simp only [VR]; rfl) (by simp [Builtin.cap_, run_underlying ht, goInt])
theorem capA_ok (hr : Rel β D B W s.h w) {t ty el : TypeId} {n : Nat} (ht : P.underlying t = some (.array n el)) {X : Value} : Gives P β D B W s s (.i .i64 (.ofNat n)) (Builtin.cap_ #[t] ty #[X]) w :=
  Gives.same hr (by simp only [VR]; rfl) (by simp [Builtin.cap_, run_underlying ht, goInt])

def VO (β : Id → CA) (D : Id → Prop) (x : Option AV) (X : Option Value) : Prop := match x with
  | none => X = none
  | some x => ∃ V, X = some V ∧ VR β D x V
theorem bnd_ok {x : Option AV} {X : Option Value} {d top n : Nat} (h : bnd x d top = some n) (hx : VO β D x X) : (x = none ∧ X = none ∧ n = d) ∨ (n ≤ top ∧ x ≠ none ∧ ∃ k, X = some (.int k n)) := by
  cases x with
  | none => simp only [bnd] at h; cases h; exact .inl ⟨rfl, hx, rfl⟩
  | some v =>
    obtain ⟨V, rfl, hv⟩ := hx
    simp only [bnd] at h
    split at h
    · cases h
    · rename_i m hm
      split at h
      · rename_i hb
        cases h
        obtain ⟨k, rfl⟩ := natOf_ok hm hv
        exact .inr ⟨Nat.le_of_ble_eq_true hb, by simp, k, rfl⟩
      · cases h
def topM (mx : Option AV) (cap m : Nat) : Nat := match mx with
  | none => cap
  | some _ => m
theorem bnds_ok {len k cap : Nat} {lo hi mx : Option AV} {LO HI MX : Option Value} {l h m : Nat} (hb : bnds len k lo hi mx = some (l, h, m)) (hk : k ≤ cap) (h1 : VO β D lo LO) (h2 : VO β D hi HI) (h3 : VO β D mx MX) (hm : (mx.isNone || hi.isSome) = true) (isS : Bool) :
    (Instr.sliceBounds isS len cap LO HI MX).run P w = .ok (l, h, topM mx cap m) w ∧ l ≤ h ∧ h ≤ m ∧ m ≤ k ∧ (mx = none → m = k) := by
  unfold bnds at hb
  split at hb
  · cases hb
  · rename_i m' hm'
    split at hb
    · cases hb
    · rename_i h' hh'
      split at hb
      · cases hb
      · rename_i l' hl'
        split at hb
        · rename_i hle
          cases hb
          simp only [Bool.and_eq_true] at hle
          have le1 : l ≤ h := Nat.le_of_ble_eq_true hle.1
          have le2 : h ≤ m := Nat.le_of_ble_eq_true hle.2
          have sb : ∀ (k : IntKind) (i y : Nat) (code : BoundsCode), i ≤ y → (Instr.sliceBound (.int k (i : Int)) y code).run P w = .ok i w := fun k i y code hi => by
            have := run_sliceBound (P := P) w k (i : Int) y code (by omega) (by omega)
            simpa using this
          rcases bnd_ok hm' h3 with ⟨rfl, rfl, rfl⟩ | ⟨m1, m2, km, rfl⟩
          · refine ⟨?_, le1, le2, Nat.le_refl _, fun _ => rfl⟩
            rcases bnd_ok hh' h2 with ⟨rfl, rfl, rfl⟩ | ⟨n1, n2, kh, rfl⟩
            · rcases bnd_ok hl' h1 with ⟨rfl, rfl, rfl⟩ | ⟨p1, p2, kl, rfl⟩
              · simp [Instr.sliceBounds, topM]
              · simp [Instr.sliceBounds, topM, sb, p1]
            · have hc : h ≤ cap := by omega
              rcases bnd_ok hl' h1 with ⟨rfl, rfl, rfl⟩ | ⟨p1, p2, kl, rfl⟩
              · simp [Instr.sliceBounds, topM, sb, hc]
              · simp [Instr.sliceBounds, topM, sb, hc, p1]
          · cases mx with
            | none => exact absurd rfl m2
            | some mx =>
            refine ⟨?_, le1, le2, m1, fun e => by cases e⟩
            have hmc : m ≤ cap := by omega
            rcases bnd_ok hh' h2 with ⟨rfl, rfl, rfl⟩ | ⟨n1, n2, kh, rfl⟩
            · simp at hm
            · rcases bnd_ok hl' h1 with ⟨rfl, rfl, rfl⟩ | ⟨p1, p2, kl, rfl⟩
              · simp [Instr.sliceBounds, topM, sb, n1, hmc]
              · simp [Instr.sliceBounds, topM, sb, n1, hmc, p1]
        · cases hb
theorem add_at (b o n : Nat) : (⟨b, o, none⟩ : Addr).add n = ⟨b, o + n, none⟩ := by
  unfold Addr.add
  split <;> simp_all
theorem offAt_eq (off l m w : Nat) : offAt off l m w = if m = l then off else off + l * w := by
  unfold offAt
  cases hb : Nat.beq m l
  · have : m ≠ l := fun e => by subst e; simp at hb
    simp [this]
  · simp [Nat.eq_of_beq_eq_true hb]
theorem sls_ok (hY : TyOk P Y) (hr : Rel β D B W s.h w) {t el : TypeId} {z : Nat} (ht : P.underlying t = some (.slice el)) (hz : sizeT Y el = some z) {x v : AV} {X : Value} {lo hi mx : Option AV} {LO HI MX : Option Value}
    (h : M.ofO (slsF z x lo hi mx) M.pure s = some (v, s')) (hx : VR β D x X) (h1 : VO β D lo LO) (h2 : VO β D hi HI) (h3 : VO β D mx MX) (hm : (mx.isNone || hi.isSome) = true) : Gives P β D B W s s' v (Instr.sliceAt t X LO HI MX) w := by
  have h0 := ofO_pure h
  clear h
  obtain ⟨h, rfl⟩ := h0
  have hsz := size_ok hY hz
  cases x <;> simp only [slsF] at h <;> try (cases h; done)
  · -- nil
    split at h
    · cases h
    · rename_i b hb
      obtain ⟨l, hh, m⟩ := b
      cases h
      simp only [VR] at hx
      subst hx
      obtain ⟨g1, g2, g3, g4, g5⟩ := bnds_ok (P := P) (w := w) hb (Nat.le_refl 0) h1 h2 h3 hm true
      obtain rfl : m = 0 := by omega
      obtain rfl : hh = 0 := by omega
      obtain rfl : l = 0 := by omega
      have e : topM mx 0 0 = 0 := by cases mx <;> rfl
      rw [e] at g1
      exact Gives.same hr (V := .slice none 0 0) (by simp only [VR]) (by simp [Instr.sliceAt, run_underlying ht, Instr.slice, g1, hsz])
  · -- closed
    rename_i id off len cap
    split at h
    · rename_i l hh m hb
      cases h
      simp only [VR] at hx
      obtain ⟨hd, rfl⟩ := hx
      obtain ⟨g1, g2, g3, g4, g5⟩ := bnds_ok (P := P) (w := w) hb (Nat.le_refl cap) h1 h2 h3 hm true
      have e : topM mx cap m = m := by
        cases mx
        · exact (g5 rfl).symm
        · rfl
      rw [e] at g1
      refine Gives.same hr (V := .slice (some ⟨(β id).blk, (β id).base + offAt off l m z, none⟩) (hh - l) (m - l)) (by simp only [VR]; first | exact ⟨hd, rfl⟩ | exact ⟨hd, trivial⟩) ?_
      simp [Instr.sliceAt, run_underlying ht, Instr.slice, g1, hsz, offAt_eq]
      by_cases hml : m = l
      · simp [hml]
      · simp [hml, add_at, Nat.add_assoc]
    · cases h
  · -- open
    rename_i id off len k w'
    simp only [VR] at hx
    obtain ⟨hd, hlk, q, cap, rfl, hkc, hq, hlim⟩ := hx
    split at h
    · rename_i l hh m hb
      obtain ⟨g1, g2, g3, g4, g5⟩ := bnds_ok (P := P) (w := w) hb hkc.1 h1 h2 h3 hm true
      split at h
      · rename_i hw
        obtain rfl := Nat.eq_of_beq_eq_true hw
        cases mx with
        | some mx =>
          simp only [topM] at h g1
          split at h
          · rename_i hk1
            cases h
            have hk1' : 1 ≤ k := Nat.le_of_ble_eq_true hk1
            obtain rfl : q = (β id).base + off := hq.resolve_left (by omega)
            refine Gives.same hr (V := .slice (some ⟨(β id).blk, (β id).base + offAt off l m z, none⟩) (hh - l) (m - l)) (by simp only [VR]; first | exact ⟨hd, rfl⟩ | exact ⟨hd, trivial⟩) ?_
            simp [Instr.sliceAt, run_underlying ht, Instr.slice, g1, hsz, offAt_eq]
            by_cases hml : m = l
            · simp [hml]
            · simp [hml, add_at, Nat.add_assoc]
          · cases h
        | none =>
          simp only [topM] at h g1
          cases h
          have hmk := g5 rfl
          refine Gives.same hr (V := .slice (some ⟨(β id).blk, if cap = l then q else q + l * z, none⟩) (hh - l) (cap - l)) ?_ ?_
          · simp only [VR]
            refine ⟨hd, by omega, _, _, rfl, by omega, ?_, ?_⟩
            · by_cases hcl : cap = l
              · exact .inl (by omega)
              · right
                rw [if_neg hcl, hq.resolve_left (by omega)]
                omega
            · have hlc : l ≤ cap := by omega
              have : l * z + (cap - l) * z = cap * z := by rw [← Nat.add_mul]; congr 1; omega
              omega
          · simp [Instr.sliceAt, run_underlying ht, Instr.slice, g1, hsz]
            by_cases hcl : cap = l
            · simp [hcl]
            · simp [hcl, add_at]
      · cases h
    · cases h
theorem sla_ok (hY : TyOk P Y) (hr : Rel β D B W s.h w) {t el : TypeId} {n z : Nat} (ht : P.underlying t = some (.array n el)) (hz : sizeT Y el = some z) {x v : AV} {X : Value} {lo hi mx : Option AV} {LO HI MX : Option Value}
    (h : M.ofO (slaF z n x lo hi mx) M.pure s = some (v, s')) (hx : VR β D x X) (h1 : VO β D lo LO) (h2 : VO β D hi HI) (h3 : VO β D mx MX) (hm : (mx.isNone || hi.isSome) = true) : Gives P β D B W s s' v (Instr.sliceAt t X LO HI MX) w := by
  have h0 := ofO_pure h
  clear h
  obtain ⟨h, rfl⟩ := h0
  have hsz := size_ok hY hz
  cases x <;> simp only [slaF] at h <;> try (cases h; done)
  rename_i id off
  split at h
  · rename_i l hh m hb
    cases h
    simp only [VR] at hx
    obtain ⟨hd, rfl⟩ := hx
    obtain ⟨g1, g2, g3, g4, g5⟩ := bnds_ok (P := P) (w := w) hb (Nat.le_refl n) h1 h2 h3 hm false
    have e : topM mx n m = m := by
      cases mx
      · exact (g5 rfl).symm
      · rfl
    rw [e] at g1
    refine Gives.same hr (V := .slice (some ⟨(β id).blk, (β id).base + offAt off l m z, none⟩) (hh - l) (m - l)) (by simp only [VR]; first | exact ⟨hd, rfl⟩ | exact ⟨hd, trivial⟩) ?_
    simp [Instr.sliceAt, run_underlying ht, Instr.sureAddr, g1, hsz, offAt_eq]
    by_cases hml : m = l
    · simp [hml]
    · simp [hml, add_at, Nat.add_assoc]
  · cases h
theorem slt_ok (hr : Rel β D B W s.h w) {t : TypeId} (ht : P.underlying t = some .string) {x v : AV} {X : Value} {lo hi : Option AV} {LO HI : Option Value}
    (h : M.ofO (sltF x lo hi) M.pure s = some (v, s')) (hx : VR β D x X) (h1 : VO β D lo LO) (h2 : VO β D hi HI) : Gives P β D B W s s' v (Instr.sliceAt t X LO HI none) w := by
  have h0 := ofO_pure h
  clear h
  obtain ⟨h, rfl⟩ := h0
  cases x <;> simp only [sltF] at h <;> try (cases h; done)
  rename_i b
  split at h
  · cases h
  · rename_i l hh m hb
    cases h
    simp only [VR] at hx
    obtain ⟨rfl, hlt⟩ := hx
    obtain ⟨g1, g2, g3, g4, g5⟩ := bnds_ok (P := P) (w := w) hb (Nat.le_refl b.length) h1 h2 (show VO β D none none from rfl) rfl false
    have hsz : (⟨(b.map UInt8.ofNat).toArray⟩ : ByteArray).size = b.length := by show (List.map UInt8.ofNat b).toArray.size = _; simp
    refine Gives.same hr (V := .string ((⟨(b.map UInt8.ofNat).toArray⟩ : ByteArray).extract l hh)) ?_ ?_
    · simp only [VR]
      refine ⟨?_, fun c hc => hlt c (List.mem_of_mem_drop (List.mem_of_mem_take hc))⟩
      congr 1
      apply ByteArray.ext
      simp [ByteArray.data_extract]
    · simp only [Instr.sliceAt, Sem.run_bind, run_underlying ht, Result.andThen_ok, Instr.slice, hsz]
      simp [g1]
theorem ixa_ok (hY : TyOk P Y) (hr : Rel β D B W s.h w) {t el : TypeId} {n z : Nat} (ht : P.underlying t = some (.array n el)) (hz : sizeT Y el = some z) {x i v : AV} {X I : Value}
    (h : ixaF n z x i s = some (v, s')) (hx : VR β D x X) (hi : VR β D i I) : Gives P β D B W s s' v (Instr.indexAt t X I) w := by
  have h0 := ofO_some h
  clear h
  obtain ⟨q, hq, h⟩ := h0
  obtain ⟨k, rfl⟩ := natOf_ok hq hi
  have hsz := size_ok hY hz
  cases x <;> first | (simp only [M.no] at h; cases h; done) | skip
  rename_i id off
  obtain ⟨hlt, h2⟩ := ifB_some h
  obtain ⟨rfl, rfl⟩ := pure_some h2
  simp only [VR] at hx
  obtain ⟨hd, rfl⟩ := hx
  have hlt' : q < n := Nat.le_of_ble_eq_true hlt
  refine Gives.same hr (V := .pointer (some ⟨(β id).blk, (β id).base + (off + q * z), none⟩)) (by simp only [VR]; first | exact ⟨hd, rfl⟩ | exact ⟨hd, trivial⟩) ?_
  have h3 : ¬ n ≤ q := by omega
  simp [Instr.indexAt, asIntOf, run_underlying ht, Instr.sureAddr, h3, hsz, add_at, Nat.add_assoc]
theorem ixs_ok (hY : TyOk P Y) (hr : Rel β D B W s.h w) {t el : TypeId} {z : Nat} (ht : P.underlying t = some (.slice el)) (hz : sizeT Y el = some z) {x i v : AV} {X I : Value}
    (h : ixsF z x i s = some (v, s')) (hx : VR β D x X) (hi : VR β D i I) : Gives P β D B W s s' v (Instr.indexAt t X I) w := by
  have h0 := ofO_some h
  clear h
  obtain ⟨q, hq, h⟩ := h0
  obtain ⟨k, rfl⟩ := natOf_ok hq hi
  have hsz := size_ok hY hz
  cases x <;> first | (simp only [M.no] at h; cases h; done) | skip
  · rename_i id off len cap
    obtain ⟨hlt, h2⟩ := ifB_some h
    obtain ⟨rfl, rfl⟩ := pure_some h2
    simp only [VR] at hx
    obtain ⟨hd, rfl⟩ := hx
    have hlt' : q < len := Nat.le_of_ble_eq_true hlt
    refine Gives.same hr (V := .pointer (some ⟨(β id).blk, (β id).base + (off + q * z), none⟩)) (by simp only [VR]; first | exact ⟨hd, rfl⟩ | exact ⟨hd, trivial⟩) ?_
    have h3 : ¬ len ≤ q := by omega
    simp [Instr.indexAt, asIntOf, run_underlying ht, h3, hsz, add_at, Nat.add_assoc]
  · rename_i id off len kk w'
    obtain ⟨hlt, h2⟩ := ifB_some h
    obtain ⟨rfl, rfl⟩ := pure_some h2
    simp only [VR] at hx
    obtain ⟨hd, hlk, x, cap, rfl, hkc, hxx, hlim⟩ := hx
    have hlt' : q < len := Nat.le_of_ble_eq_true hlt
    obtain rfl : x = (β id).base + off := hxx.resolve_left (by omega)
    refine Gives.same hr (V := .pointer (some ⟨(β id).blk, (β id).base + (off + q * z), none⟩)) (by simp only [VR]; first | exact ⟨hd, rfl⟩ | exact ⟨hd, trivial⟩) ?_
    have h3 : ¬ len ≤ q := by omega
    simp [Instr.indexAt, asIntOf, run_underlying ht, h3, hsz, add_at, Nat.add_assoc]
end
end Ev
end Go.Proofs.YthknbcbkibbncaaGreat

/- DERIVED. The evaluator's operations against the model's: new blocks, what is built, what is turned into another type. -/
namespace Go.Proofs.YthknbcbkibbncaaGreat
namespace Ev
open Go.RowKit

section
variable {P : Program} {Y : Ty} {β : Id → CA} {D : Id → Prop} {B N : Nat} {W w : World} {s s' : S} {e : Env} {a : Act}

theorem Cells.ofVRs {l : List AV} {c : Array Value} {o : Nat} {Vs : List Value} (hl : VRs β D l Vs) (h1 : ∀ v ∈ l, v.one = true) (hc : ∀ j V, Vs[j]? = some V → c[o + j]? = some V) (hf : o + l.length ≤ c.size) : Cells β D c o l :=
  ⟨hf, h1, fun j v hv => let ⟨V, a, b⟩ := hl.get j v hv; ⟨V, hc j V a, b⟩⟩
theorem byteT_ok (hY : TyOk P Y) {t : TypeId} (h : byteT Y t = some true) : P.underlying t = some (.int .u8) := by
  unfold byteT at h
  rw [Option.bind_eq_some_iff] at h
  obtain ⟨d, hd, h⟩ := h
  have := under_ok hY hd
  cases d <;> simp [isB] at h
  rename_i k
  cases k <;> simp at h
  exact this
theorem guardB_some {b : Bool} {u : Unit} (h : guardB b = some u) : b = true := by cases b <;> simp [guardB] at h ⊢
theorem zeroT_ok (hY : TyOk P Y) {t : TypeId} {cs : List AV} (h : zeroT Y t = some cs) (β : Id → CA) (D : Id → Prop) :
    ∃ i z, P.info? t = some i ∧ i.zero = some z ∧ (∀ w, (zeroValue t).run P w = .ok z w) ∧ VRs β D cs z.cells.toList ∧ (∀ c ∈ cs, c.one = true) ∧ cs.length = i.size ∧ Y.t t = some i := by
  unfold zeroT at h
  simp only [Option.bind_eq_some_iff] at h
  obtain ⟨i, hi, z, hz, av, hav, l, hl, u, hu, h⟩ := h
  cases h
  have hp := hY.t t i hi
  obtain ⟨h1, h2⟩ := (ofV_ok hav β D).cells hl
  exact ⟨i, z, hp, hz, fun w => by simp [zeroValue, typeInfo, hp, hz], h1, h2, Nat.eq_of_beq_eq_true (guardB_some hu), hi⟩

theorem new_gives (hr : Rel β D B W s.h w) {z : Bool} {l : List AV} {v : AV} (h : newF z l s = some (v, s')) (hf : Fresh D s.n.num s'.n.num) {V : Value} (hl : VRs β D l V.cells.toList) (h1 : ∀ x ∈ l, x.one = true) (t : TypeId) :
    Gives P β D B W s s' v (do pure (.pointer (some (← newVar t V)))) w := by
  obtain ⟨id, u, h2, h3⟩ := bind_some h
  obtain ⟨rfl, rfl⟩ := pure_some h3
  have hid := (new_ok hr.hr h2).1
  refine Gives.fresh hr h2 hf rfl (.inl rfl) V.cells t (0, 0) (fzok_zero _ _) (Cells.ofVRs (o := 0) hl h1 (fun j U hU => by simpa using hU) (by have := hl.length; simp at this; omega)) (fun _ => by have := hl.length; simp at this; omega) (V := .pointer (some ⟨w.heap.size, 0, none⟩)) ?_ ?_
  · simp [newVar, newRow]
  · simp only [VR]
    subst hid
    rw [named_same]
    exact ⟨.inr rfl, rfl⟩

theorem fold_set : ∀ (C : List Value) (k off : Nat) (cells : Array Value), off + k + C.length ≤ cells.size →
    ((C.zipIdx k).foldl (fun cs p => cs.setIfInBounds (off + p.2) p.1) cells).toList = cells.toList.take (off + k) ++ (C ++ cells.toList.drop (off + k + C.length))
  | [], k, off, cells, h => by simp
  | v :: C, k, off, cells, h => by
    simp only [List.zipIdx_cons, List.foldl_cons, List.length_cons] at h ⊢
    rw [fold_set C (k + 1) off _ (by simp; omega)]
    have hlt : off + k < cells.toList.length := by simp; omega
    simp only [Array.toList_setIfInBounds]
    rw [show off + (k + 1) = off + k + 1 by omega, List.take_succ_eq_append_getElem (by simp; omega)]
    simp only [List.take_set_of_le (Nat.le_refl _), List.getElem_set_self]
    rw [List.drop_set_of_lt (by omega), show off + k + 1 + C.length = off + k + (C.length + 1) by omega]
    simp
theorem fill_ok (he : ER β D N e a) {place place' : Nat → Option (Nat × Nat)} (hp : ∀ j om, place' j = some om → place j = some om) :
    ∀ {parts : List (Nat × Operand)} {ps : List Part} {cs l : List AV} {cells : Array Value}, cPs place' parts = some ps → fillL e ps cs = some l → VRs β D cs cells.toList → (∀ x ∈ cs, x.one = true) →
      ∃ out, Instr.fill place cells (parts.map fun p => (p.1, a.eval p.2)) = some out ∧ VRs β D l out.toList ∧ (∀ x ∈ l, x.one = true) ∧ l.length = cs.length
  | [], ps, cs, l, cells, hc, hf, hv, h1 => by
    simp only [cPs] at hc
    cases hc
    simp only [fillL] at hf
    cases hf
    exact ⟨cells, rfl, hv, h1, rfl⟩
  | jx :: parts, ps, cs, l, cells, hc, hf, hv, h1 => by
    simp only [cPs, Option.bind_eq_some_iff] at hc
    obtain ⟨om, hom, x, hx, as9, has, hc⟩ := hc
    cases hc
    simp only [fillL] at hf
    split at hf
    · cases hf
    · rename_i lx hlx
      split at hf
      · rename_i hb
        simp only [Bool.and_eq_true] at hb
        have e1 : lx.length = om.2 := Nat.eq_of_beq_eq_true hb.1
        have e2 : om.1 + om.2 ≤ cs.length := Nat.le_of_ble_eq_true hb.2
        obtain ⟨k1, k2⟩ := (arg_ok he hx).cells hlx
        have s1 : (a.eval jx.2).cells.size = om.2 := by have := k1.length; simp at this; omega
        have s2 : cells.size = cs.length := by have := hv.length; simpa using this
        have hset : VRs β D (setL lx cs om.1) (((a.eval jx.2).cells.zipIdx.foldl (fun cs (p : Value × Nat) => cs.setIfInBounds (om.1 + p.2) p.1) cells).toList) := by
          have := fold_set (a.eval jx.2).cells.toList 0 om.1 cells (by simp; omega)
          rw [← Array.foldl_toList, Array.toList_zipIdx, this]
          unfold setL
          have hl := k1.length
          rw [Nat.add_zero, hl]
          exact (hv.take _).append (k1.append (hv.drop _))
        have hone : ∀ y ∈ setL lx cs om.1, y.one = true := by
          intro y hy
          simp only [setL, List.mem_append] at hy
          rcases hy with hy | hy | hy
          · exact h1 y (List.mem_of_mem_take hy)
          · exact k2 y hy
          · exact h1 y (List.mem_of_mem_drop hy)
        have hlen : (setL lx cs om.1).length = cs.length := by simp [setL]; omega
        obtain ⟨out, o1, o2, o3, o4⟩ := fill_ok he hp has hf hset hone
        refine ⟨out, ?_, o2, o3, o4.trans hlen⟩
        simp only [List.map_cons, Instr.fill, hp _ _ hom]
        rw [if_neg (by simp; omega)]
        exact o1
      · cases hf

theorem fldP_ok (hY : TyOk P Y) : ∀ {fs : List Field} {pl : List (Nat × Nat)}, fldP Y fs = some pl → fs.mapM (fun f => (P.info? f.type).map fun i => (f.offset, i.size)) = some pl
  | [], pl, h => by simp only [fldP] at h; cases h; rfl
  | f :: fs, pl, h => by
    simp only [fldP, Option.bind_eq_some_iff] at h
    obtain ⟨m, hm, l, hl, h⟩ := h
    cases h
    have := size_info hY hm
    cases hi : P.info? f.type with
    | none => simp [hi] at this
    | some i =>
      simp [hi] at this
      subst this
      simp [List.mapM_cons, hi, fldP_ok hY hl]
theorem build_ok (hY : TyOk P Y) (hr : Rel β D B W s.h w) (he : ER β D N e a) {t : TypeId} {parts : Array (Nat × Operand)} {cs : List AV} {ps : List Part} {v : AV} (hc : cBuild Y t parts.toList = some (.build cs ps))
    (h : (M.ofO (fillL e ps cs) fun l => M.pure (.ag l)) s = some (v, s')) : Gives P β D B W s s' v (Instr.build t (parts.map fun (i, x) => (i, a.eval x))) w := by
  obtain ⟨l, hl, h2⟩ := ofO_some h
  obtain ⟨rfl, rfl⟩ := pure_some h2
  simp only [cBuild, Option.bind_eq_some_iff] at hc
  obtain ⟨d, hd, cs', hcs, hc⟩ := hc
  obtain ⟨i, z, hi, hz, hzr, hzv, h1, hlen, hYt⟩ := zeroT_ok hY hcs β D
  have hu := under_ok hY hd
  have hparts : (parts.map fun (p : Nat × Operand) => (p.1, a.eval p.2)).toList = parts.toList.map fun p => (p.1, a.eval p.2) := by simp
  have fin : ∀ out : Array Value, P.built t (parts.map fun (p : Nat × Operand) => (p.1, a.eval p.2)).toList = some out → VRs β D l out.toList → (∀ x ∈ l, x.one = true) → Gives P β D B W s' s' (.ag l) (Instr.build t (parts.map fun (i, x) => (i, a.eval x))) w := fun out hb hv ho =>
    Gives.same hr (V := .agg out) (by simp only [VR]; exact ⟨out.toList, by simp, hv, ho⟩) (run_build w t _ out hb)
  cases d <;> try (cases hc; done)
  · -- an array
    rename_i n el
    simp only [Option.bind_eq_some_iff] at hc
    obtain ⟨m, hm, ps', hps, hc⟩ := hc
    cases hc
    obtain ⟨out, o1, o2, o3, o4⟩ := fill_ok (place := fun i => some (i * m, m)) he (fun j om h => h) hps hl hzv h1
    refine fin out ?_ o2 o3
    have hse := size_info hY hm
    cases hie : P.info? el with
    | none => simp [hie] at hse
    | some ie =>
      simp [hie] at hse
      subst hse
      unfold Program.built
      rw [hi, hu]
      simp only [hz, hie, hparts]
      exact o1
  · -- a struct
    rename_i fs
    simp only [Option.bind_eq_some_iff] at hc
    obtain ⟨pl, hpl, ps', hps, hc⟩ := hc
    cases hc
    obtain ⟨out, o1, o2, o3, o4⟩ := fill_ok (place := fun j => pl.toArray[j]?) he (fun j om h => by simpa using h) hps hl hzv h1
    refine fin out ?_ o2 o3
    unfold Program.built
    rw [hi, hu]
    simp only [hz, fldP_ok hY hpl, hparts]
    exact o1

theorem repL_length (l : List AV) : ∀ n, (repL l n).length = n * l.length
  | 0 => by simp [repL]
  | n + 1 => by simp [repL, repL_length l n, Nat.add_mul, Nat.add_comm]
theorem repL_get (l : List AV) : ∀ (n j : Nat), j < n * l.length → (repL l n)[j]? = l[j % l.length]?
  | 0, j, h => by simp at h
  | n + 1, j, h => by
    simp only [repL]
    by_cases hj : j < l.length
    · rw [List.getElem?_append_left hj, Nat.mod_eq_of_lt hj]
    · rw [List.getElem?_append_right (by omega), repL_get l n _ (by rw [Nat.add_mul] at h; omega)]
      congr 1
      rw [Nat.mod_eq_sub_mod (a := j) (by omega)]
theorem repL_one {l : List AV} (h : ∀ x ∈ l, x.one = true) : ∀ n, ∀ x ∈ repL l n, x.one = true
  | 0, x, hx => by simp [repL] at hx
  | n + 1, x, hx => by
    simp only [repL, List.mem_append] at hx
    rcases hx with hx | hx
    · exact h x hx
    · exact repL_one h n x hx
theorem made_vr {cs : List AV} {z : Array Value} (h : VRs β D cs z.toList) (n : Nat) : VRs β D (repL cs n) (madeCells z (n * cs.length)).toList := by
  have hz : z.size = cs.length := by have := h.length; simpa using this
  refine VRs.of ?_ fun j x V hx hV => ?_
  · simp [size_madeCells, repL_length]
  · have hj : j < n * cs.length := by
      rcases Nat.lt_or_ge j (n * cs.length) with h' | h'
      · exact h'
      · rw [List.getElem?_eq_none (by rw [repL_length]; exact h')] at hx; cases hx
    rw [repL_get cs n j hj] at hx
    obtain ⟨U, hU, hv⟩ := h.get _ x hx
    have hpos : 0 < cs.length := by
      rcases Nat.eq_zero_or_pos cs.length with h0 | h0
      · rw [h0] at hj; simp at hj
      · exact h0
    have hm : j % cs.length < z.size := by rw [hz]; exact Nat.mod_lt _ hpos
    simp [madeCells, hj, hz] at hV
    rw [hz] at hm
    simp at hU
    have e : z[j % cs.length]! = U := by
      rw [getElem!_def, hU]
    rw [e] at hV
    rw [← hV]
    exact hv
theorem bsl_ok (hY : TyOk P Y) (hr : Rel β D B W s.h w) (he : ER β D N e a) {t : TypeId} {len : Nat} {parts : Array (Nat × Operand)} {z : Bool} {cs : List AV} {len' : Nat} {ps : List Part} {v : AV} (hc : cBsl Y t len parts.toList = some (.bsl z cs len' ps))
    (h : (M.ofO (fillL e ps cs) fun l => bslF z len' l) s = some (v, s')) (hf : Fresh D s.n.num s'.n.num) : Gives P β D B W s s' v (Instr.buildSlice t len (parts.map fun (i, x) => (i, a.eval x))) w := by
  obtain ⟨l, hl, h2⟩ := ofO_some h
  obtain ⟨id, u, h3, h4⟩ := bind_some h2
  obtain ⟨rfl, rfl⟩ := pure_some h4
  simp only [cBsl, Option.bind_eq_some_iff] at hc
  obtain ⟨el, hel, m, hm, _, hg, z', hz', cs', hcs, ps', hps, hc⟩ := hc
  cases hc
  obtain ⟨i, zv, hi, hz, hzr, hzv, h1, hlen, hYt⟩ := zeroT_ok hY hcs β D
  have hu := elemS_ok hY hel
  have him : i.size = m := by have := size_info hY hm; simpa [hi] using this
  subst him
  have hg' : len * i.size ≤ 1048576 := Nat.le_of_ble_eq_true (guardB_some hg)
  have hrep := made_vr hzv len
  rw [hlen] at hrep
  obtain ⟨out, o1, o2, o3, o4⟩ := fill_ok (place := fun j => some (j * i.size, i.size)) he (fun j om h => h) hps hl hrep (repL_one h1 len)
  have hid := (new_ok hr.hr h3).1
  refine Gives.fresh hr h3 hf rfl (.inl rfl) out el (0, 0) (fzok_zero _ _) (Cells.ofVRs (o := 0) o2 o3 (fun j U hU => by simpa using hU) (by have := o2.length; simp at this; omega)) (fun _ => by have := o2.length; simp at this; omega) (V := .slice (some ⟨w.heap.size, 0, none⟩) len len) ?_ ?_
  · have hparts : (parts.map fun (p : Nat × Operand) => (p.1, a.eval p.2)).toList = parts.toList.map fun p => (p.1, a.eval p.2) := by simp
    have hsmall : ¬ len * i.size > 2 ^ 24 := by omega
    by_cases h0 : len * i.size = 0
    · have e0 : madeCells zv.cells (len * i.size) = #[] := by simp [madeCells, h0]
      rw [e0] at o1
      simp [Instr.buildSlice, run_underlying hu, sizeOf, typeInfo, hi, h0, newRow, Array.range_zero', o1]
    · rw [← hparts] at o1
      exact run_buildSlice w t el len _ out i zv hu hi hz hsmall h0 o1
  · simp only [VR]
    subst hid
    rw [named_same]
    exact ⟨.inr rfl, rfl⟩
theorem mks_ok (hY : TyOk P Y) (hr : Rel β D B W s.h w) {t : TypeId} {z : Bool} {cs : List AV} {l c v : AV} {L C : Value} {el : TypeId} {i : TypeInfo} (hel : elemS Y t = some el) (hi : Y.t el = some i) (hg : Nat.ble i.bytes lim = true) (hcs : zeroT Y el = some cs)
    (h : mksF z cs l c s = some (v, s')) (hl : VR β D l L) (hc : VR β D c C) (hf : Fresh D s.n.num s'.n.num) : Gives P β D B W s s' v (Instr.makeSlice t L C) w := by
  obtain ⟨ln, hln, h⟩ := ofO_some h
  obtain ⟨cn, hcn, h⟩ := ofO_some h
  obtain ⟨hb, h⟩ := ifB_some h
  obtain ⟨id, u, h3, h4⟩ := bind_some h
  obtain ⟨rfl, rfl⟩ := pure_some h4
  obtain ⟨kl, rfl⟩ := natOf_ok hln hl
  obtain ⟨kc, rfl⟩ := natOf_ok hcn hc
  simp only [Bool.and_eq_true] at hb
  have b1 : ln ≤ cn := Nat.le_of_ble_eq_true hb.1
  have b2 : cn ≤ 1048576 := Nat.le_of_ble_eq_true hb.2
  have b3 : i.bytes ≤ 1048576 := Nat.le_of_ble_eq_true hg
  obtain ⟨i', zv, hi', hz, hzr, hzv, h1, hlen, hYt⟩ := zeroT_ok hY hcs β D
  obtain rfl : i' = i := by rw [hi] at hYt; cases hYt; rfl
  have hu := elemS_ok hY hel
  have hb : i'.bytes * cn ≤ 281474976710656 := Nat.le_trans (Nat.mul_le_mul b3 b2) (by omega)
  have hb' : (i'.bytes : Int) * (cn : Int) ≤ 281474976710656 := by rw [← Int.natCast_mul]; omega
  have hrun := run_make (P := P) w t el i' zv hu hi' hz kl kc ln cn (by omega) (by omega) hb' (by omega)
  have hrep := made_vr hzv cn
  rw [hlen] at hrep
  have hid := (new_ok hr.hr h3).1
  simp only [Int.toNat_natCast] at hrun
  refine Gives.fresh hr h3 hf rfl (.inl rfl) _ el (0, 0) (fzok_zero _ _) (Cells.ofVRs (o := 0) hrep (repL_one h1 cn) (fun j U hU => by simpa using hU) (by have := hrep.length; simp at this; omega)) (fun _ => by have := hrep.length; simp at this; omega) hrun ?_
  simp only [VR]
  subst hid
  rw [named_same]
  exact ⟨.inr rfl, rfl⟩
end
end Ev
end Go.Proofs.YthknbcbkibbncaaGreat
