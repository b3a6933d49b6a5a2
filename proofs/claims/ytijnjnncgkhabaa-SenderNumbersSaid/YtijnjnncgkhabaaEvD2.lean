/- DERIVED. A region that draws its order: in whatever order, what the evaluator gives in its own. -/
import Derived.Test.YtijnjnncgkhabaaEvD
import Derived.Test.YtijnjnncgkhabaaEvU
namespace Go.Proofs.Ytijnjnncgkhabaa
namespace Ev
open Go.RowKit

section
variable {P : Program} {Y : Ty} {β : Id → CA} {D : Id → Prop} {B N : Nat} {W w : World} {s s' u : S} {e e' : Env} {a : Act} {F : Fns}

theorem look_ext {h h' : Heap} (hl : ∀ id j, look h id j = look h' id j) : h = h' := by
  funext id
  cases hk : h id with
  | none =>
    cases hk' : h' id with
    | none => rfl
    | some k' => rw [blk_same hk' (fun j _ => hl id j)] at hk; cases hk
  | some k => exact (blk_same hk (fun j _ => (hl id j).symm)).symm

/-- has come up -/
def up (l : Array Bool) (k : Nat) : Prop := l.getD k false = true

structure Inv (β₀ : Id → CA) (D₀ : Id → Prop) (B N : Nat) (W : World) (pl : List PS) (ms : List Nat) (E : Nat → Env) (H : Nat → Heap) (n : Nat → Id) (Ww : Nat → List Rng) (l : Array Bool) (β : Id → CA) (D : Id → Prop) (env : Env) (h : Heap) (a : Act) (w : World) : Prop where
  size : l.size = pl.length
  keep : ∀ id, D₀ id → D id ∧ β id = β₀ id
  ids : ∀ id, D id → D₀ id ∨ ∃ k, k < pl.length ∧ up l k ∧ (n k).num ≤ id.num ∧ id.num < (n (k + 1)).num
  rel : Rel β D B W h w
  er : ER β D N env a
  env : ∀ t m, m ≤ pl.length → (m = 0 ∨ up l (m - 1) ∧ ∃ o, pl[m - 1]? = some o ∧ o.d = some t) → (∀ k, k < pl.length → up l k → (∃ o, pl[k]? = some o ∧ o.d = some t) → k < m) → env t = E m t
  heap : ∀ id j m, m ≤ pl.length → (m = 0 ∨ up l (m - 1) ∧ cov (Ww (m - 1)) id j) → (∀ k, k < pl.length → up l k → cov (Ww k) id j → k < m) → look h id j = look (H m) id j
  closed : ∀ k, k < pl.length → up l k → ∀ p, Nat.testBit (ms[k]?.getD 0) p = true → up l p

theorem cSs_get {ops : List Oper} : ∀ {l : List Oper} {pl : List PS}, cSs Y N ops l = some pl → pl.length = l.length ∧ ∀ (k : Nat) (o : Oper), l[k]? = some o → ∃ ps, pl[k]? = some ps ∧ cS Y N ops o = some ps
  | [], pl, h => by simp only [cSs] at h; cases h; exact ⟨rfl, fun k o h => by simp at h⟩
  | o :: l, pl, h => by
    simp only [cSs] at h
    obtain ⟨x, hx, h⟩ := bi_some h
    obtain ⟨xs, hxs, h⟩ := bi_some h
    cases h
    obtain ⟨h1, h2⟩ := cSs_get hxs
    refine ⟨by simp [h1], fun k o' ho' => ?_⟩
    cases k with
    | zero => simp at ho'; subst ho'; exact ⟨x, by simp, hx⟩
    | succ k => simpa using h2 k o' (by simpa using ho')

theorem up_set {l : Array Bool} {i k : Nat} (hi : i < l.size) : up (l.setIfInBounds i true) k ↔ k = i ∨ up l k := by
  unfold up
  by_cases h : k = i
  · subst h
    simp [hi]
  · rw [getD_set_ne false (fun e => h e.symm)]
    simp [h]

theorem draw_any (hY : TyOk P Y) (hF : FnOk P F) (hL : LocF F) {ops : Array Oper} {pl : List PS} {ms : List Nat} (hms : ms = anc [] ops.toList) (hpl : cSs Y N ops.toList ops.toList = some pl) (hsl : slotsOk pl ms = true) (hbk : backOk 0 ops.toList = true)
    {E : Nat → Env} {H : Nat → Heap} {n : Nat → Id} {v : Nat → AV} {R Ww : Nat → List Rng} (st : Steps F pl ms 0 E H n v R Ww) (hfree : ∀ k, k < pl.length → FreeTo ⟨true, H k, n k, [], []⟩ ⟨true, H (k + 1), n (k + 1), [], []⟩) (hmono : ∀ k, k < pl.length → (n k).num ≤ (n (k + 1)).num)
    {β₀ : Id → CA} {D₀ : Id → Prop} (hfr : Fresh D₀ (n 0).num (n pl.length).num) {Q : Exit → Act → World → Prop}
    (hQ : ∀ β D a w, Ext β₀ D₀ β D (n 0).num (n pl.length).num → Rel β D B W (H pl.length) w → ER β D N (E pl.length) a → Q .normal a w) :
    ∀ (fuel : Nat) (l : Array Bool) (L : List Nat) (β : Id → CA) (D : Id → Prop) (env : Env) (h : Heap) (a : Act) (w : World), L.length = fuel → (∀ i, i < pl.length → ¬ up l i → i ∈ L) → Inv β₀ D₀ B N W pl ms E H n Ww l β D env h a w →
      wpAny P .any ops Q fuel l a w := by
  obtain ⟨hlen, hget⟩ := cSs_get hpl
  have hlen' : pl.length = ops.size := by simpa using hlen
  have mono2 : ∀ i j, i ≤ j → j ≤ pl.length → (n i).num ≤ (n j).num := by
    intro i j hij
    induction j with
    | zero => intro _; obtain rfl : i = 0 := (by omega); exact Nat.le_refl _
    | succ j ih =>
      intro hj
      by_cases h : i = j + 1
      · subst h; exact Nat.le_refl _
      · exact Nat.le_trans (ih (by omega) (by omega)) (hmono j (by omega))
  -- all have come up
  have full : ∀ {l : Array Bool} {β : Id → CA} {D : Id → Prop} {env : Env} {h : Heap} {a : Act} {w : World}, Inv β₀ D₀ B N W pl ms E H n Ww l β D env h a w → (∀ i, i < pl.length → up l i) → Q .normal a w := by
    intro l β D env h a w inv hall
    have he : env = E pl.length := by
      funext t
      obtain ⟨m, m1, m2, m3⟩ := last_of (fun k => ∃ o, pl[k]? = some o ∧ o.d = some t) pl.length
      have h1 := inv.env t m m1 (m2.imp (fun x => x) fun h => by
        have hk : m - 1 < pl.length := by obtain ⟨o, ho, _⟩ := h; exact (List.getElem?_eq_some_iff.1 ho).1
        exact ⟨hall _ hk, h⟩) (fun k hk _ h => m3 k hk h)
      rw [h1]
      -- no one writes it behind m
      have step : ∀ k, m ≤ k → k ≤ pl.length → E m t = E k t := by
        intro k hmk
        induction k with
        | zero => intro _; obtain rfl : m = 0 := (by omega); rfl
        | succ k ih =>
          intro hk
          by_cases hmk' : m = k + 1
          · rw [hmk']
          · rw [ih (by omega) (by omega)]
            have hkl : k < pl.length := by omega
            obtain ⟨_, hE⟩ := st.run k pl[k] (by simp [hkl])
            rw [hE]
            cases hd : pl[k].d with
            | none => rfl
            | some d =>
              simp only [putO]
              rw [if_neg]
              intro htd
              have := m3 k hkl ⟨pl[k], by simp [hkl], by rw [hd, htd]⟩
              omega
      exact step pl.length m1 (Nat.le_refl _)
    have hh : h = H pl.length := by
      refine look_ext fun id j => ?_
      obtain ⟨m, m1, m2, m3⟩ := last_of (fun k => k < pl.length ∧ cov (Ww k) id j) pl.length
      have h1 := inv.heap id j m m1 (m2.imp (fun x => x) fun h => ⟨hall _ h.1, h.2⟩) (fun k hk _ h => m3 k hk ⟨hk, h⟩)
      rw [h1]
      have step : ∀ k, m ≤ k → k ≤ pl.length → look (H m) id j = look (H k) id j := by
        intro k hmk
        induction k with
        | zero => intro _; obtain rfl : m = 0 := (by omega); rfl
        | succ k ih =>
          intro hk
          by_cases hmk' : m = k + 1
          · rw [hmk']
          · rw [ih (by omega) (by omega)]
            have hkl : k < pl.length := by omega
            obtain ⟨hrun, _⟩ := st.run k pl[k] (by simp [hkl])
            obtain ⟨R', W', r⟩ := (Loc.psV hL _ _ _ _ _ hrun).2.2.2 (hfree k (by omega))
            obtain ⟨_, l2⟩ := r.log rfl
            simp only [List.append_nil] at l2
            refine (r.off id j (fun hc => ?_)).symm
            rw [← l2] at hc
            have := m3 k hkl ⟨hkl, hc⟩
            omega
      exact step pl.length m1 (Nat.le_refl _)
    subst he hh
    refine hQ β D a w ⟨mono2 0 pl.length (by omega) (Nat.le_refl _), inv.keep, fun id hd => ?_⟩ inv.rel inv.er
    rcases inv.ids id hd with h1 | ⟨k, k1, _, k2, k3⟩
    · exact .inl h1
    · have a1 := mono2 0 k (by omega) (by omega)
      have a2 := mono2 (k + 1) pl.length (by omega) (Nat.le_refl _)
      exact .inr ⟨by omega, by omega⟩
  -- who is not up yet and waits for none
  have least : ∀ {l : Array Bool}, l.size = pl.length → (∀ i, i < pl.length → up l i) ∨ Region.ready .any ops l ≠ [] := by
    intro l hsz
    by_cases hall : ∀ i, i < pl.length → up l i
    · exact .inl hall
    · right
      have hex : ∃ i, i < pl.length ∧ ¬ up l i := by
        refine Classical.byContradiction fun hn => hall fun i hi => Classical.byContradiction fun hu => hn ⟨i, hi, hu⟩
      -- the first such
      have first : ∃ i, (i < pl.length ∧ ¬ up l i) ∧ ∀ k, k < i → up l k := by
        obtain ⟨i, hi⟩ := hex
        induction i using Nat.strongRecOn with
        | _ i ih =>
          by_cases hk : ∃ k, k < i ∧ ¬ up l k
          · obtain ⟨k, k1, k2⟩ := hk
            exact ih k k1 ⟨by omega, k2⟩
          · exact ⟨i, hi, fun k hk' => Classical.byContradiction fun hu => hk ⟨k, hk', hu⟩⟩
      obtain ⟨i, ⟨i1, i2⟩, i3⟩ := first
      have hil : i < l.size := by omega
      have hf : l.getD i true = false := by
        unfold up at i2
        simp [hil] at i2 ⊢
        exact i2
      have him : i ∈ Region.ready .any ops l := by
        rw [mem_ready]
        have hio : i < ops.size := by omega
        refine ⟨hf, ops[i], by simp [hio], fun ed hed hb => ?_⟩
        have := back_spec ops.toList 0 i ops[i] hbk (by simp [hio]) ed hed hb
        exact i3 ed.on (by omega)
      intro hnil
      rw [hnil] at him
      cases him
  intro fuel
  induction fuel with
  | zero =>
    intro l L β D env h a w hL0 hLm inv
    have hall : ∀ i, i < pl.length → up l i := fun i hi => Classical.byContradiction fun hu => by
      have := hLm i hi hu
      rw [List.eq_nil_of_length_eq_zero hL0] at this
      cases this
    refine ⟨?_, full inv hall⟩
    refine List.eq_nil_iff_forall_not_mem.2 fun i hi => ?_
    rw [mem_ready] at hi
    obtain ⟨hi, o, ho, _⟩ := hi
    have hio : i < ops.size := (Array.getElem?_eq_some_iff.1 ho).1
    have := hall i (by omega)
    unfold up at this
    have hil : i < l.size := by rw [inv.size]; omega
    simp [hil] at hi this
    rw [hi] at this
    cases this
  | succ fuel ih =>
    intro l L β D env h a w hL0 hLm inv
    refine ⟨fun hnil => full inv ((least inv.size).resolve_right (fun h => h hnil)), fun i hi => ?_⟩
    rw [mem_ready] at hi
    obtain ⟨hi, o, ho, hwait⟩ := hi
    have hio : i < ops.size := (Array.getElem?_eq_some_iff.1 ho).1
    have hip : i < pl.length := by omega
    have hil : i < l.size := by rw [inv.size]; exact hip
    have hnu : ¬ up l i := by
      unfold up
      simp [hil] at hi ⊢
      exact hi
    obtain ⟨ps, hps, hcs⟩ := hget i o (by simpa using ho)
    obtain ⟨hdst, hpd⟩ := cS_dst hcs
    obtain ⟨hrun, hEi⟩ := st.run i ps hps
    obtain ⟨R', W', r⟩ := (Loc.psV hL _ _ _ _ _ hrun).2.2.2 (hfree i (by omega))
    obtain ⟨g1, g2⟩ := r.log rfl
    simp only [List.append_nil] at g1 g2
    rw [← g1, ← g2] at r
    -- all that it waits for has come up
    have hmi : ∃ m, ms[i]? = some m := by
      have hl : ms.length = ops.toList.length := by rw [hms, anc_length]; simp
      exact ⟨ms[i]'(by rw [hl]; simpa using hio), by simp [hl, hio]⟩
    obtain ⟨mi, hmi⟩ := hmi
    have wait : ∀ p, Nat.testBit (ms[i]?.getD 0) p = true → up l p := by
      intro p hp
      rw [hms] at hp
      have := anc_spec ops.toList [] i o (by simpa using ho) p (by simpa using hp)
      obtain ⟨ed, e1, e2, e3, e4⟩ := this
      simp only [List.length_nil, Nat.zero_add] at e3
      have hup : up l ed.on := hwait ed (by simpa using e1) e2
      rcases e4 with rfl | e4
      · exact hup
      · exact inv.closed ed.on (by omega) hup p (by rw [hms]; exact e4)
    have hl : ms.length = ops.toList.length := by rw [hms, anc_length]; simp
    have hmk : ∀ k, k < pl.length → ms[k]? = some (ms[k]?.getD 0) := fun k hk => by
      have : k < ms.length := by rw [hl]; simp; omega
      simp [this]
    -- one that is up and not in its own order's past is none that it meets
    have meetW : ∀ k, k < pl.length → up l k → ∀ id j, cov (Ww k) id j → cov (R i) id j ∨ cov (Ww i) id j → k < i := by
      intro k hk huk id j hc hc'
      have hki : k ≠ i := fun e => hnu (by rw [← e]; exact huk)
      rcases Nat.lt_or_ge k i with h' | h'
      · exact h'
      · exfalso
        have hcl := st.calm k _ hk (hmk k hk) i (by omega)
        simp only [Nat.zero_add] at hcl
        rcases clash_no hcl with h1 | ⟨c1, c2, c3⟩
        · exact hnu (inv.closed k hk huk i h1)
        · rcases hc' with hc' | hc'
          · exact c3 id j hc' hc
          · exact c1 id j hc' hc
    -- those in its past that it meets are up
    have pastW : ∀ k, k < i → ∀ id j, cov (Ww k) id j → cov (R i) id j ∨ cov (Ww i) id j → up l k := by
      intro k hk id j hc hc'
      have hcl := st.calm i _ hip (hmk i hip) k hk
      simp only [Nat.zero_add] at hcl
      rcases clash_no hcl with h1 | ⟨c1, c2, c3⟩
      · exact wait k h1
      · exfalso
        rcases hc' with hc' | hc'
        · exact c2 id j hc hc'
        · exact c1 id j hc hc'
    have meetT : ∀ k, k < pl.length → up l k → ∀ t, (∃ o, pl[k]? = some o ∧ o.d = some t) → t ∈ readsS ps ∨ ps.d = some t → k < i := by
      intro k hk huk t ⟨o', ho', hd'⟩ hc'
      have hki : k ≠ i := fun e => hnu (by rw [← e]; exact huk)
      rcases Nat.lt_or_ge k i with h' | h'
      · exact h'
      · exfalso
        cases hb : Nat.testBit (ms[k]?.getD 0) i with
        | true => exact hnu (inv.closed k hk huk i hb)
        | false =>
          obtain ⟨c1, c2⟩ := slots_spec hsl (show i < k by omega) hps ho' hb
          obtain ⟨d1, d2⟩ := apartS_spec c2 hd'
          rcases hc' with hc' | hc'
          · exact d1 hc'
          · exact d2 hc'
    have pastT : ∀ k, k < i → ∀ t, (∃ o, pl[k]? = some o ∧ o.d = some t) → t ∈ readsS ps ∨ ps.d = some t → up l k := by
      intro k hk t ⟨o', ho', hd'⟩ hc'
      cases hb : Nat.testBit (ms[i]?.getD 0) k with
      | true => exact wait k hb
      | false =>
        exfalso
        obtain ⟨c1, c2⟩ := slots_spec hsl hk ho' hps hb
        obtain ⟨d1, d2⟩ := apartS_spec c1 hd'
        rcases hc' with hc' | hc'
        · exact d1 hc'
        · exact d2 hc'
    -- what it reads is what it read in its own order
    have agreeT : ∀ t, t ∈ readsS ps ∨ ps.d = some t → env t = E i t := by
      intro t ht
      obtain ⟨m, m1, m2, m3⟩ := last_of (fun k => up l k ∧ ∃ o, pl[k]? = some o ∧ o.d = some t) i
      have h1 := inv.env t m (by omega) m2 (fun k hk huk hw => m3 k (meetT k hk huk t hw ht) ⟨huk, hw⟩)
      rw [h1]
      have step : ∀ k, m ≤ k → k ≤ i → E m t = E k t := by
        intro k hmk'
        induction k with
        | zero => intro _; obtain rfl : m = 0 := (by omega); rfl
        | succ k ihk =>
          intro hk
          by_cases hmk2 : m = k + 1
          · rw [hmk2]
          · rw [ihk (by omega) (by omega)]
            have hkl : k < pl.length := by omega
            obtain ⟨_, hE⟩ := st.run k pl[k] (by simp [hkl])
            rw [hE]
            cases hd : pl[k].d with
            | none => rfl
            | some d =>
              simp only [putO]
              rw [if_neg]
              intro htd
              have hw : ∃ o, pl[k]? = some o ∧ o.d = some t := ⟨pl[k], by simp [hkl], by rw [hd, htd]⟩
              have := m3 k (by omega) ⟨pastT k (by omega) t hw ht, hw⟩
              omega
      exact step i m1 (Nat.le_refl _)
    have agreeW : ∀ id j, cov (R i) id j ∨ cov (Ww i) id j → look h id j = look (H i) id j := by
      intro id j hc
      obtain ⟨m, m1, m2, m3⟩ := last_of (fun k => up l k ∧ cov (Ww k) id j) i
      have h1 := inv.heap id j m (by omega) m2 (fun k hk huk hw => m3 k (meetW k hk huk id j hw hc) ⟨huk, hw⟩)
      rw [h1]
      have step : ∀ k, m ≤ k → k ≤ i → look (H m) id j = look (H k) id j := by
        intro k hmk'
        induction k with
        | zero => intro _; obtain rfl : m = 0 := (by omega); rfl
        | succ k ihk =>
          intro hk
          by_cases hmk2 : m = k + 1
          · rw [hmk2]
          · rw [ihk (by omega) (by omega)]
            have hkl : k < pl.length := by omega
            obtain ⟨hrun', _⟩ := st.run k pl[k] (by simp [hkl])
            obtain ⟨R2, W2, r2⟩ := (Loc.psV hL _ _ _ _ _ hrun').2.2.2 (hfree k (by omega))
            obtain ⟨_, l2'⟩ := r2.log rfl
            simp only [List.append_nil] at l2'
            refine (r2.off id j (fun hc2 => ?_)).symm
            rw [← l2'] at hc2
            have := m3 k (by omega) ⟨pastW k (by omega) id j hc2 hc, hc2⟩
            omega
      exact step i m1 (Nat.le_refl _)
    -- its run here
    have hcong : psV ps F env = psV ps F (E i) := psV_congr fun t ht => agreeT t (.inl ht)
    obtain ⟨t', t1, t2, t3, t4, t5, t6⟩ := r.also ⟨true, h, n i, [], []⟩ rfl rfl agreeW
    have hfri : Fresh D (n i).num (n (i + 1)).num := by
      intro id d1 d2 hd
      rcases inv.ids id hd with hd0 | ⟨k, k1, k2, k3, k4⟩
      · exact hfr id (Nat.le_trans (mono2 0 i (by omega) (by omega)) d1) (Nat.lt_of_lt_of_le d2 (mono2 (i + 1) pl.length (by omega) (Nat.le_refl _))) hd0
      · have hki : k ≠ i := fun e => hnu (by rw [← e]; exact k2)
        rcases Nat.lt_or_ge k i with h' | h'
        · have := mono2 (k + 1) i (by omega) (by omega); omega
        · have := mono2 (i + 1) k (by omega) (by omega); omega
    refine ps_ok (s := ⟨true, h, n i, [], []⟩) (s' := t') hY hF inv.rel inv.er ho hcs (by rw [hcong]; exact t1) (by rw [t2]; exact hfri) ?_
    intro β' D' w' V hx hrel hv
    rw [t2] at hx
    refine ih (l.setIfInBounds i true) (L.erase i) β' D' (putO ps.d (v i) env) t'.h _ w' ?_ ?_ ?_
    · have := hLm i hip hnu
      rw [List.length_erase_of_mem this]; omega
    · intro k hk hu
      rw [up_set hil] at hu
      have hki : k ≠ i := fun e => hu (.inl e)
      exact (List.mem_erase_of_ne hki).2 (hLm k hk (fun h' => hu (.inr h')))
    · have upS : ∀ k, up (l.setIfInBounds i true) k ↔ k = i ∨ up l k := fun k => up_set hil
      refine ⟨by simpa using inv.size, fun id hd => ?_, fun id hd => ?_, hrel, ?_, fun t m m1 m2 m3 => ?_, fun id j m m1 m2 m3 => ?_, fun k hk huk p hp => ?_⟩
      · obtain ⟨k1, k2⟩ := inv.keep id hd
        obtain ⟨q1, q2⟩ := hx.keep id k1
        exact ⟨q1, q2.trans k2⟩
      · rcases hx.new id hd with h1 | ⟨h1, h2⟩
        · rcases inv.ids id h1 with h2 | ⟨k, k1, k2, k3⟩
          · exact .inl h2
          · exact .inr ⟨k, k1, (upS k).2 (.inr k2), k3⟩
        · exact .inr ⟨i, hip, (upS i).2 (.inl rfl), h1, h2⟩
      · rw [hpd]
        exact (inv.er.mono hx).put hdst hv
      · -- slots
        by_cases hti : ps.d = some t
        · have him : i < m := m3 i hip ((upS i).2 (.inl rfl)) ⟨ps, hps, hti⟩
          have hmi : m = i + 1 := by
            rcases m2 with h0 | ⟨hu, hw⟩
            · omega
            · rcases (upS (m - 1)).1 hu with h1 | h1
              · omega
              · have := meetT (m - 1) (by omega) h1 t hw (.inr hti); omega
          rw [hmi, hEi]
          simp only [hti, putO, if_true]
        · have e1 : putO ps.d (v i) env t = env t := by
            cases hd : ps.d with
            | none => rfl
            | some d =>
              simp only [putO]
              rw [if_neg (fun e => hti (by rw [hd, e]))]
          rw [e1]
          refine inv.env t m m1 (m2.imp (fun x => x) fun ⟨hu, hw⟩ => ?_) (fun k hk huk hw => m3 k hk ((upS k).2 (.inr huk)) hw)
          rcases (upS (m - 1)).1 hu with h1 | h1
          · exfalso
            obtain ⟨o', ho', hd'⟩ := hw
            rw [h1, hps] at ho'
            cases ho'
            exact hti hd'
          · exact ⟨h1, hw⟩
      · -- memory
        by_cases hci : cov (Ww i) id j
        · have him : i < m := m3 i hip ((upS i).2 (.inl rfl)) hci
          have hmi : m = i + 1 := by
            rcases m2 with h0 | ⟨hu, hw⟩
            · omega
            · rcases (upS (m - 1)).1 hu with h1 | h1
              · omega
              · have := meetW (m - 1) (by omega) h1 id j hw (.inr hci); omega
          rw [hmi]
          exact t5 id j hci
        · rw [t6 id j hci]
          refine inv.heap id j m m1 (m2.imp (fun x => x) fun ⟨hu, hw⟩ => ?_) (fun k hk huk hw => m3 k hk ((upS k).2 (.inr huk)) hw)
          rcases (upS (m - 1)).1 hu with h1 | h1
          · exfalso
            rw [h1] at hw
            exact hci hw
          · exact ⟨h1, hw⟩
      · rcases (upS k).1 huk with rfl | h1
        · exact (upS p).2 (.inr (wait p hp))
        · exact (upS p).2 (.inr (inv.closed k hk h1 p hp))
end
end Ev
end Go.Proofs.Ytijnjnncgkhabaa
