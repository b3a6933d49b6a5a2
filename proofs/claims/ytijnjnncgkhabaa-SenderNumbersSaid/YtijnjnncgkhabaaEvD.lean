/- DERIVED. A region that draws its order: slots and waits, plainly. -/
import Derived.Test.YtijnjnncgkhabaaEvL3
namespace Go.Proofs.Ytijnjnncgkhabaa
namespace Ev

theorem arg_congr {x : Arg} {e e' : Env} (h : ∀ t ∈ tmpsA x, e t = e' t) : arg x e = arg x e' := by
  cases x with
  | t n => exact h n (by simp [tmpsA])
  | c v => rfl
theorem args_congr {l : List Arg} {e e' : Env} (h : ∀ t ∈ tmpsAs l, e t = e' t) : args l e = args l e' := by
  unfold args
  refine List.map_congr_left fun x hx => arg_congr fun t ht => h t ?_
  simp only [tmpsAs, List.mem_flatMap]
  exact ⟨x, hx, ht⟩
theorem argO_congr {x : Option Arg} {e e' : Env} (h : ∀ t ∈ tmpsO x, e t = e' t) : argO x e = argO x e' := by
  cases x with
  | none => rfl
  | some x => simp only [argO]; rw [arg_congr h]
theorem fillL_congr {e e' : Env} : ∀ {ps : List Part} {cs : List AV}, (∀ t ∈ ps.flatMap fun p => tmpsA p.x, e t = e' t) → fillL e ps cs = fillL e' ps cs
  | [], _, _ => rfl
  | p :: ps, cs, h => by
    simp only [List.flatMap_cons, List.mem_append] at h
    simp only [fillL]
    rw [arg_congr fun t ht => h t (.inl ht)]
    cases (arg p.x e').cells with
    | none => rfl
    | some l =>
      simp only
      rw [fillL_congr fun t ht => h t (.inr ht)]
theorem poR_congr {o : PO} {F : Fns} {e e' : Env} (h : ∀ t ∈ tmpsP o, e t = e' t) : poR o F e = poR o F e' := by
  cases o <;> simp only [tmpsP, List.mem_append] at h <;> simp only [poR]
  case mv x => rw [arg_congr h]
  case pick c a b => rw [arg_congr fun t ht => h t (.inl ht), arg_congr (x := a) fun t ht => h t (.inr (.inl ht)), arg_congr (x := b) fun t ht => h t (.inr (.inr ht))]
  case box z x => rw [arg_congr h]
  case build cs ps => rw [fillL_congr h]
  case bsl z cs len ps => rw [fillL_congr h]
  case ld1 x => rw [arg_congr h]
  case ldn m x => rw [arg_congr h]
  case st m x y => rw [arg_congr fun t ht => h t (.inl ht), arg_congr (x := y) fun t ht => h t (.inr ht)]
  case nilc x => rw [arg_congr h]
  case bin o x y => rw [arg_congr fun t ht => h t (.inl ht), arg_congr (x := y) fun t ht => h t (.inr ht)]
  case eq k n x y => rw [arg_congr fun t ht => h t (.inl ht), arg_congr (x := y) fun t ht => h t (.inr ht)]
  case un o x => rw [arg_congr h]
  case cvi k x => rw [arg_congr h]
  case cvs x => rw [arg_congr h]
  case cvb x => rw [arg_congr h]
  case cvt x => rw [arg_congr h]
  case cvm x => rw [arg_congr h]
  case mkf f x y => rw [args_congr fun t ht => h t (.inl ht), args_congr (l := y) fun t ht => h t (.inr ht)]
  case mks z cs x y => rw [arg_congr fun t ht => h t (.inl ht), arg_congr (x := y) fun t ht => h t (.inr ht)]
  case sls w x a b c => rw [arg_congr fun t ht => h t (.inl ht), argO_congr (x := a) fun t ht => h t (.inr (.inl ht)), argO_congr (x := b) fun t ht => h t (.inr (.inr (.inl ht))), argO_congr (x := c) fun t ht => h t (.inr (.inr (.inr ht)))]
  case sla w n x a b c => rw [arg_congr fun t ht => h t (.inl ht), argO_congr (x := a) fun t ht => h t (.inr (.inl ht)), argO_congr (x := b) fun t ht => h t (.inr (.inr (.inl ht))), argO_congr (x := c) fun t ht => h t (.inr (.inr (.inr ht)))]
  case slt x a b => rw [arg_congr fun t ht => h t (.inl ht), argO_congr (x := a) fun t ht => h t (.inr (.inl ht)), argO_congr (x := b) fun t ht => h t (.inr (.inr ht))]
  case fad o x => rw [arg_congr h]
  case ixa n w x y => rw [arg_congr fun t ht => h t (.inl ht), arg_congr (x := y) fun t ht => h t (.inr ht)]
  case ixs w x y => rw [arg_congr fun t ht => h t (.inl ht), arg_congr (x := y) fun t ht => h t (.inr ht)]
  case ext x j => rw [arg_congr h]
  case calv f l => rw [arg_congr fun t ht => h t (.inl ht), args_congr fun t ht => h t (.inr ht)]
  case app z w x y => rw [arg_congr fun t ht => h t (.inl ht), arg_congr (x := y) fun t ht => h t (.inr ht)]
  case apz z w cs x y => rw [arg_congr fun t ht => h t (.inl ht), arg_congr (x := y) fun t ht => h t (.inr ht)]
  case cpy w x y => rw [arg_congr fun t ht => h t (.inl ht), arg_congr (x := y) fun t ht => h t (.inr ht)]
  case clr cs x => rw [arg_congr h]
  case len x => rw [arg_congr h]
  case lns x => rw [arg_congr h]
  case cap x => rw [arg_congr h]
  case mm m x l => rw [arg_congr fun t ht => h t (.inl ht), args_congr fun t ht => h t (.inr ht)]
theorem psV_congr {o : PS} {F : Fns} {e e' : Env} (h : ∀ t ∈ readsS o, e t = e' t) : psV o F e = psV o F e' := by
  unfold psV
  cases hg : o.g with
  | none =>
    simp only [readsS, hg] at h
    simp only [wanted]
    exact poR_congr h
  | some g =>
    simp only [readsS, hg, List.mem_cons] at h
    have h1 := h g.1 (.inl rfl)
    have h2 : poR o.o F e = poR o.o F e' := poR_congr fun t ht => h t (.inr ht)
    simp only [wanted]
    rw [h1, h2]

theorem hits_no {a b : List Rng} (h : hits a b = false) {id : Id} {j : Nat} (ha : cov a id j) (hb : cov b id j) : False := by
  obtain ⟨r, hr, e1, e2, e3⟩ := ha
  obtain ⟨r', hr', f1, f2, f3⟩ := hb
  have : hits a b = true := by
    unfold hits
    rw [List.any_eq_true]
    refine ⟨r, hr, ?_⟩
    rw [List.any_eq_true]
    refine ⟨r', hr', ?_⟩
    unfold hit
    rw [e1, f1]
    simp only [Bool.and_eq_true]
    refine ⟨by simp, ?_, ?_⟩
    · exact Nat.ble_eq_true_of_le (by omega)
    · exact Nat.ble_eq_true_of_le (by omega)
  rw [h] at this
  cases this
theorem clash_no {m : Nat} {b a : Ft} (h : clash m b a = false) : Nat.testBit m a.i = true ∨ (∀ id j, cov a.w id j → ¬ cov b.w id j) ∧ (∀ id j, cov a.w id j → ¬ cov b.r id j) ∧ (∀ id j, cov a.r id j → ¬ cov b.w id j) := by
  unfold clash at h
  cases ht : Nat.testBit m a.i
  · right
    rw [ht] at h
    simp only [Bool.or_eq_false_iff] at h
    exact ⟨fun id j x y => hits_no h.1 x y, fun id j x y => hits_no h.2.1 x y, fun id j x y => hits_no h.2.2 x y⟩
  · exact .inl rfl

/-- a region's run in its own order, step by step -/
structure Steps (F : Fns) (l : List PS) (ms : List Nat) (i : Nat) (E : Nat → Env) (H : Nat → Heap) (n : Nat → Id) (v : Nat → AV) (R W : Nat → List Rng) : Prop where
  run : ∀ k o, l[k]? = some o → psV o F (E k) ⟨true, H k, n k, [], []⟩ = some (v k, ⟨true, H (k + 1), n (k + 1), R k, W k⟩) ∧ E (k + 1) = putO o.d (v k) (E k)
  len : ms.length ≥ l.length
  calm : ∀ k m, k < l.length → ms[k]? = some m → ∀ k', k' < k → clash m ⟨i + k, R k, W k⟩ ⟨i + k', R k', W k'⟩ = false
theorem apart_some {α : Type} {m : M α} {s s' : S} {x : α × List Rng × List Rng} (h : M.apart m s = some (x, s')) : ∃ t, m ⟨true, s.h, s.n, [], []⟩ = some (x.1, t) ∧ x.2.1 = t.r ∧ x.2.2 = t.w ∧ s'.h = t.h ∧ s'.n = t.n ∧ s'.tr = s.tr := by
  unfold M.apart at h
  cases hm : m ⟨true, s.h, s.n, [], []⟩ with
  | none => rw [hm] at h; cases h
  | some q =>
    obtain ⟨y, t⟩ := q
    rw [hm] at h
    simp only at h
    cases htr : s.tr <;> rw [htr] at h <;> simp only at h <;> cases h
    · exact ⟨t, rfl, rfl, rfl, rfl, rfl, rfl⟩
    · exact ⟨t, rfl, rfl, rfl, rfl, rfl, rfl⟩
theorem drw_steps {F : Fns} (hF : LocF F) : ∀ (l : List PS) (ms : List Nat) (acc : List Ft) (i : Nat) (e : Env) (s : S) (e' : Env) (s' : S), drwR F l ms acc i e s = some (e', s') →
    ∃ E H n v R W, Steps F l ms i E H n v R W ∧ E 0 = e ∧ H 0 = s.h ∧ n 0 = s.n ∧ E l.length = e' ∧ H l.length = s'.h ∧ n l.length = s'.n ∧ (∀ k m, k < l.length → ms[k]? = some m → ∀ a ∈ acc, clash m ⟨i + k, R k, W k⟩ a = false)
  | [], ms, acc, i, e, s, e', s', h => by
    simp only [drwR, M.pure, Option.some.injEq, Prod.mk.injEq] at h
    obtain ⟨rfl, rfl⟩ := h
    exact ⟨fun _ => e, fun _ => s.h, fun _ => s.n, fun _ => und, fun _ => [], fun _ => [], ⟨fun k o h => by simp at h, by simp, fun k m hk => by simp at hk⟩, rfl, rfl, rfl, rfl, rfl, rfl, fun k m hk => by simp at hk⟩
  | o :: l, [], acc, i, e, s, e', s', h => by simp [drwR, M.no] at h
  | o :: l, m :: ms, acc, i, e, s, e', s', h => by
    simp only [drwR, M.bind] at h
    cases hap : M.apart (psR o F e) s with
    | none => rw [hap] at h; cases h
    | some xu =>
      obtain ⟨x, u⟩ := xu
      rw [hap] at h
      simp only at h
      cases hcl : acc.any (clash m ⟨i, x.2.1, x.2.2⟩) <;> rw [hcl] at h <;> simp only at h
      · obtain ⟨t, t1, t2, t3, t4, t5, t6⟩ := apart_some hap
        simp only [psR, M.bind] at t1
        cases hps : psV o F e ⟨true, s.h, s.n, [], []⟩ with
        | none => rw [hps] at t1; cases t1
        | some vu =>
          obtain ⟨v0, u0⟩ := vu
          rw [hps] at t1
          simp only [M.pure, Option.some.injEq, Prod.mk.injEq] at t1
          obtain ⟨t1, rfl⟩ := t1
          obtain ⟨b1, b2, b3, _⟩ := Loc.psV hF o e ⟨true, s.h, s.n, [], []⟩ v0 u0 hps
          obtain ⟨E, H, n, v, R, W, st, c1, c2, c3, c4, c5, c6, c7⟩ := drw_steps hF l ms (⟨i, x.2.1, x.2.2⟩ :: acc) (i + 1) x.1 u e' s' h
          have cons : ∀ {γ : Type} (y : γ) (g : Nat → γ) (k : Nat), (fun k => match k with | 0 => y | k + 1 => g k) (k + 1) = g k := fun _ _ _ => rfl
          refine ⟨fun k => match k with | 0 => e | k + 1 => E k, fun k => match k with | 0 => s.h | k + 1 => H k, fun k => match k with | 0 => s.n | k + 1 => n k, fun k => match k with | 0 => v0 | k + 1 => v k,
            fun k => match k with | 0 => x.2.1 | k + 1 => R k, fun k => match k with | 0 => x.2.2 | k + 1 => W k, ⟨fun k o' ho' => ?_, ?_, fun k m' hk hm' k' hk' => ?_⟩, rfl, rfl, rfl, c4, c5, c6, fun k m' hk hm' a ha => ?_⟩
          · cases k with
            | zero =>
              simp only [List.getElem?_cons_zero, Option.some.injEq] at ho'
              subst ho'
              refine ⟨?_, ?_⟩
              · show psV o F e ⟨true, s.h, s.n, [], []⟩ = some (v0, ⟨true, H 0, n 0, x.2.1, x.2.2⟩)
                rw [hps, c2, c3, t4, t5, t2, t3]
                obtain ⟨utr, uh, un, ur, uw⟩ := u0
                simp only at b1
                subst b1
                rfl
              · show E 0 = putO o.d v0 e
                rw [c1, t1]
            | succ k => exact st.run k o' (by simpa using ho')
          · have := st.len; simp; omega
          · cases k with
            | zero => omega
            | succ k =>
              simp only [List.getElem?_cons_succ] at hm'
              simp only [List.length_cons, Nat.add_lt_add_iff_right] at hk
              cases k' with
              | zero =>
                have := c7 k m' hk hm' ⟨i, x.2.1, x.2.2⟩ (by simp)
                rw [show i + (k + 1) = i + 1 + k by omega]
                exact this
              | succ k' =>
                have := st.calm k m' hk hm' k' (by omega)
                rw [show i + (k + 1) = i + 1 + k by omega, show i + (k' + 1) = i + 1 + k' by omega]
                exact this
          · cases k with
            | zero =>
              simp only [List.getElem?_cons_zero, Option.some.injEq] at hm'
              subst hm'
              rw [List.any_eq_false] at hcl
              simpa using hcl a ha
            | succ k =>
              simp only [List.getElem?_cons_succ] at hm'
              simp only [List.length_cons, Nat.add_lt_add_iff_right] at hk
              have := c7 k m' hk hm' a (by simp [ha])
              rw [show i + (k + 1) = i + 1 + k by omega]
              exact this
      · simp [M.no] at h

theorem ancL_spec (acc : List Nat) : ∀ (l : List Edge) (p : Nat), Nat.testBit (ancL acc l) p = true → ∃ ed ∈ l, Region.binds .any ed = true ∧ ed.on < acc.length ∧ (p = ed.on ∨ Nat.testBit (acc[acc.length - 1 - ed.on]?.getD 0) p = true)
  | [], p, h => by simp [ancL] at h
  | ed :: l, p, h => by
    simp only [ancL] at h
    have rest : Nat.testBit (ancL acc l) p = true → ∃ ed' ∈ ed :: l, Region.binds .any ed' = true ∧ ed'.on < acc.length ∧ (p = ed'.on ∨ Nat.testBit (acc[acc.length - 1 - ed'.on]?.getD 0) p = true) := fun h => by
      obtain ⟨ed', h1, h2⟩ := ancL_spec acc l p h
      exact ⟨ed', by simp [h1], h2⟩
    cases hb : (Region.binds .any ed && Nat.blt ed.on acc.length) <;> rw [hb] at h <;> simp only at h
    · exact rest h
    · simp only [Bool.and_eq_true] at hb
      have h' : (Nat.testBit (ancL acc l) p || (Nat.testBit (1 <<< ed.on) p || Nat.testBit (acc[acc.length - 1 - ed.on]?.getD 0) p)) = true := by
        rw [← Nat.testBit_or, ← Nat.testBit_or]
        exact h
      simp only [Bool.or_eq_true] at h'
      rcases h' with h' | h' | h'
      · exact rest h'
      · refine ⟨ed, by simp, hb.1, Nat.le_of_ble_eq_true hb.2, .inl ?_⟩
        rw [Nat.one_shiftLeft, Nat.testBit_two_pow] at h'
        simp at h'
        exact h'.symm
      · exact ⟨ed, by simp, hb.1, Nat.le_of_ble_eq_true hb.2, .inr h'⟩
theorem anc_length : ∀ (l : List Oper) (acc : List Nat), (anc acc l).length = acc.length + l.length
  | [], acc => by simp [anc]
  | o :: l, acc => by simp [anc, anc_length l]; omega
theorem anc_keep : ∀ (l : List Oper) (acc : List Nat) (k : Nat), k < acc.length → (anc acc l)[k]? = acc[acc.length - 1 - k]?
  | [], acc, k, h => by simp only [anc]; rw [List.getElem?_reverse h]
  | o :: l, acc, k, h => by
    simp only [anc]
    rw [anc_keep l _ k (by simp; omega)]
    simp only [List.length_cons]
    rw [show acc.length + 1 - 1 - k = (acc.length - 1 - k) + 1 by omega, List.getElem?_cons_succ]
theorem anc_spec : ∀ (l : List Oper) (acc : List Nat) (k : Nat) (o : Oper), l[k]? = some o → ∀ p, Nat.testBit ((anc acc l)[acc.length + k]?.getD 0) p = true →
    ∃ ed ∈ o.after.toList, Region.binds .any ed = true ∧ ed.on < acc.length + k ∧ (p = ed.on ∨ Nat.testBit ((anc acc l)[ed.on]?.getD 0) p = true)
  | [], acc, k, o, ho, p, h => by simp at ho
  | o0 :: l, acc, k, o, ho, p, h => by
    simp only [anc] at h ⊢
    cases k with
    | zero =>
      simp only [List.getElem?_cons_zero, Option.some.injEq] at ho
      subst ho
      rw [Nat.add_zero, anc_keep l _ acc.length (by simp)] at h
      simp only [List.length_cons, Nat.add_sub_cancel, Nat.sub_self, List.getElem?_cons_zero, Option.getD_some] at h
      obtain ⟨ed, h1, h2, h3, h4⟩ := ancL_spec acc o0.after.toList p h
      refine ⟨ed, h1, h2, by omega, h4.imp id fun h4 => ?_⟩
      rw [anc_keep l _ ed.on (by simp; omega)]
      simp only [List.length_cons]
      rw [show acc.length + 1 - 1 - ed.on = (acc.length - 1 - ed.on) + 1 by omega, List.getElem?_cons_succ]
      exact h4
    | succ k =>
      simp only [List.getElem?_cons_succ] at ho
      obtain ⟨ed, h1, h2, h3, h4⟩ := anc_spec l (ancL acc o0.after.toList :: acc) k o ho p (by
        simp only [List.length_cons]
        rw [show acc.length + 1 + k = acc.length + (k + 1) by omega]
        exact h)
      simp only [List.length_cons] at h3
      exact ⟨ed, h1, h2, by omega, h4⟩
theorem back_spec : ∀ (l : List Oper) (i k : Nat) (o : Oper), backOk i l = true → l[k]? = some o → ∀ ed ∈ o.after, Region.binds .any ed = true → ed.on < i + k
  | [], i, k, o, h, ho => by simp at ho
  | o0 :: l, i, k, o, h, ho => by
    simp only [backOk, Bool.and_eq_true] at h
    cases k with
    | zero =>
      simp only [List.getElem?_cons_zero, Option.some.injEq] at ho
      subst ho
      intro ed hed hb
      have := List.all_eq_true.1 h.1 ed (by simpa using hed)
      simp only [Bool.or_eq_true, Bool.not_eq_true'] at this
      rcases this with h' | h'
      · rw [hb] at h'; cases h'
      · exact Nat.le_of_ble_eq_true h'
    | succ k =>
      simp only [List.getElem?_cons_succ] at ho
      intro ed hed hb
      have := back_spec l (i + 1) k o h.2 ho ed hed hb
      omega
/-- the last of those below n of which p is said, and one more; 0 where there is none -/
theorem last_of (p : Nat → Prop) : ∀ n : Nat, ∃ m, m ≤ n ∧ (m = 0 ∨ p (m - 1)) ∧ ∀ k, k < n → p k → k < m
  | 0 => ⟨0, Nat.le_refl _, .inl rfl, fun k h => by omega⟩
  | n + 1 => by
    obtain ⟨m, h1, h2, h3⟩ := last_of p n
    by_cases hp : p n
    · exact ⟨n + 1, Nat.le_refl _, .inr (by simpa using hp), fun k hk _ => by omega⟩
    · refine ⟨m, by omega, h2, fun k hk hpk => ?_⟩
      by_cases hkn : k = n
      · subst hkn; exact absurd hpk hp
      · exact h3 k (by omega) hpk
theorem slots_spec {l : List PS} {ms : List Nat} (h : slotsOk l ms = true) {i j : Nat} {a b : PS} (hij : i < j) (ha : l[i]? = some a) (hb : l[j]? = some b) (ht : Nat.testBit (ms[j]?.getD 0) i = false) : apartS a b = true ∧ apartS b a = true := by
  have hj : j < l.length := (List.getElem?_eq_some_iff.1 hb).1
  unfold slotsOk at h
  rw [List.all_eq_true] at h
  have h1 := h j (by simp [hj])
  rw [List.all_eq_true] at h1
  have h2 := h1 i (by simp [hij])
  rw [ht, ha, hb] at h2
  simp only [Bool.false_or, Bool.and_eq_true] at h2
  exact h2
theorem apartS_spec {a b : PS} (h : apartS a b = true) {d : Nat} (hd : a.d = some d) : d ∉ readsS b ∧ b.d ≠ some d := by
  unfold apartS at h
  rw [hd] at h
  simp only [Bool.and_eq_true, Bool.not_eq_true'] at h
  refine ⟨fun hm => ?_, fun hb => ?_⟩
  · have := h.1
    simp [hm] at this
  · have := h.2
    rw [hb] at this
    simp at this
end Ev
end Go.Proofs.Ytijnjnncgkhabaa
