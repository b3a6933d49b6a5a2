/- DERIVED. Structs of numbers, and of rows of numbers, are compared cell for cell. -/
import Derived.Test.YthknbcbkibbncaaGreatChecked
import Derived.Test.YthknbcbkibbncaaGreatCn2
import Derived.Test.YthknbcbkibbncaaGreatCn7
import Derived.Test.YthknbcbkibbncaaGreatCn9
set_option linter.all false
set_option linter.unusedVariables false
namespace Go.Proofs.YthknbcbkibbncaaGreat
namespace Ev
open Go.RowKit
inductive Lay (P : Program) : List Field → Nat → Nat → Prop where
  | nil (o : Nat) : Lay P [] o 0
  | num {f : Field} {fs : List Field} {o n : Nat} {k : IntKind} (hn : f.name ≠ "_") (ho : f.offset = o) (ht : P.underlying f.type = some (.int k)) (h : Lay P fs (o + 1) n) : Lay P (f :: fs) o (n + 1)
  | arr {f : Field} {fs : List Field} {o n m : Nat} {el : TypeId} {k : IntKind} {i j : TypeInfo} (hn : f.name ≠ "_") (ho : f.offset = o) (ht : P.underlying f.type = some (.array m el)) (he : P.underlying el = some (.int k))
      (hi : P.info? el = some i) (hs : i.size = 1) (hj : P.info? f.type = some j) (hm : j.size = m) (h : Lay P fs (o + m) n) : Lay P (f :: fs) o (n + m)
theorem ceqs_len : ∀ {xs ys : List AV} {r : Bool}, ceqs xs ys = some r → xs.length = ys.length
  | [], [], _, _ => rfl
  | [], _ :: _, _, h => by simp [ceqs] at h
  | _ :: _, [], _, h => by simp [ceqs] at h
  | x :: xs, y :: ys, r, h => by
    simp only [ceqs] at h
    cases h1 : ceq x y with
    | none => rw [h1] at h; cases h
    | some r1 =>
      rw [h1] at h
      dsimp only at h
      cases h2 : ceqs xs ys with
      | none => rw [h2] at h; cases h
      | some r2 => simp [ceqs_len h2]
theorem ceqs_split : ∀ {a b c d : List AV} {r : Bool}, a.length = c.length → ceqs (a ++ b) (c ++ d) = some r → ∃ r1 r2, ceqs a c = some r1 ∧ ceqs b d = some r2 ∧ r = (r1 && r2)
  | [], b, [], d, r, _, h => ⟨true, r, rfl, h, by simp⟩
  | [], _, _ :: _, _, _, hl, _ => by simp at hl
  | _ :: _, _, [], _, _, hl, _ => by simp at hl
  | x :: a, b, y :: c, d, r, hl, h => by
    simp only [List.cons_append, ceqs] at h
    cases h1 : ceq x y with
    | none => rw [h1] at h; cases h
    | some q =>
      rw [h1] at h
      dsimp only at h
      cases h2 : ceqs (a ++ b) (c ++ d) with
      | none => rw [h2] at h; cases h
      | some q2 =>
        rw [h2] at h
        cases h
        obtain ⟨r1, r2, e1, e2, e3⟩ := ceqs_split (by simpa using hl) h2
        exact ⟨q && r1, r2, by simp only [ceqs, h1, e1], e2, by rw [e3, Bool.and_assoc]⟩
theorem flds_eq {P : Program} {β : Id → CA} {D : Id → Prop} (w : World) (d : Nat) (A B : Array Value) {fs : List Field} {o n : Nat} (hL : Lay P fs o n) :
    ∀ (xs ys : List AV) (X Y : List Value) (r : Bool), xs.length = n → (∀ j, A[o + j]? = X[j]?) → (∀ j, B[o + j]? = Y[j]?) → VRs β D xs X → VRs β D ys Y → ceqs xs ys = some r →
      (Op.eqFields (d + 2) A B fs).run P w = .ok r w := by
  induction hL with
  | nil o =>
    intro xs ys X Y r hn hA hB hX hY h
    obtain rfl : xs = [] := List.eq_nil_of_length_eq_zero hn
    cases ys with
    | nil =>
      simp only [ceqs] at h
      cases h
      simp [Op.eqFields]
    | cons y ys => simp [ceqs] at h
  | @num f fs o n k hf ho ht hL ih =>
    intro xs ys X Y r hn hA hB hX hY h
    cases xs with
    | nil => simp at hn
    | cons x xs =>
     cases ys with
     | nil => simp [ceqs] at h
     | cons y ys =>
      simp only [VRs] at hX hY
      obtain ⟨X1, X', rfl, hX1, hX⟩ := hX
      obtain ⟨Y1, Y', rfl, hY1, hY⟩ := hY
      simp only [ceqs] at h
      cases h1 : ceq x y with
      | none => rw [h1] at h; cases h
      | some r1 =>
        rw [h1] at h
        dsimp only at h
        cases h2 : ceqs xs ys with
        | none => rw [h2] at h; cases h
        | some r2 =>
          rw [h2] at h
          cases h
          obtain ⟨k', a, b, rfl, rfl, rfl⟩ := ceq_int h1 hX1 hY1
          have hA0 := hA 0
          have hB0 := hB 0
          simp only [Nat.add_zero, List.getElem?_cons_zero] at hA0 hB0
          have pa : (part f.type A f.offset).run P w = .ok (.int k' a) w := by simp [part, isAgg, Sem.run_bind, run_underlying ht, ho, hA0]
          have pb : (part f.type B f.offset).run P w = .ok (.int k' b) w := by simp [part, isAgg, Sem.run_bind, run_underlying ht, ho, hB0]
          have hrest := ih xs ys X' Y' r2 (by simpa using hn) (fun j => by have := hA (j + 1); rw [show o + 1 + j = o + (j + 1) by omega]; simpa using this)
            (fun j => by have := hB (j + 1); rw [show o + 1 + j = o + (j + 1) by omega]; simpa using this) hX hY h2
          simp only [Op.eqFields, hf, ne_eq, not_false_eq_true, if_true, Sem.run_bind, pa, pb, Result.andThen_ok, run_equalIn_int w (d + 1) f.type k' k _ _ ht]
          cases hab : (a == b)
          · simp [Sem.run_pure]
          · simpa using hrest
  | @arr f fs o n m el k i j hf ho ht he hi hs hj hm hL ih =>
    intro xs ys X Y r hn hA hB hX hY h
    have hlen := ceqs_len h
    have ex : xs = xs.take m ++ xs.drop m := (List.take_append_drop m xs).symm
    have ey : ys = ys.take m ++ ys.drop m := (List.take_append_drop m ys).symm
    have hxm : (xs.take m).length = m := by rw [List.length_take]; omega
    have hym : (ys.take m).length = m := by rw [List.length_take]; omega
    rw [ex, ey] at h
    obtain ⟨r1, r2, e1, e2, rfl⟩ := ceqs_split (by rw [hxm, hym]) h
    have hXl := hX.length
    have hYl := hY.length
    have hagg : ∀ w, (isAgg f.type).run P w = .ok true w := fun w => by simp [isAgg, run_underlying ht]
    have hsz : ∀ w, (sizeOf f.type).run P w = .ok m w := fun w => by simp [run_sizeOf w hj, Program.cellsOf, hj, hm]
    have pa : (part f.type A f.offset).run P w = .ok (.agg (A.extract o (o + m))) w := by
      unfold part
      simp only [Sem.run_bind, hagg, Result.andThen_ok, hsz, if_true, Sem.run_pure, ho]
    have pb : (part f.type B f.offset).run P w = .ok (.agg (B.extract o (o + m))) w := by
      unfold part
      simp only [Sem.run_bind, hagg, Result.andThen_ok, hsz, if_true, Sem.run_pure, ho]
    have hex : ∀ (A : Array Value) (X : List Value), (∀ j, A[o + j]? = X[j]?) → X.length = xs.length → ∀ j, (A.extract o (o + m))[j]? = (X.take m)[j]? := fun A X hA hl j => by
      rw [List.getElem?_take, Array.getElem?_extract]
      have hsize : o + X.length ≤ A.size ∨ X = [] := by
        cases hX : X with
        | nil => exact .inr rfl
        | cons q qs =>
          left
          have h1 := hA (X.length - 1)
          rw [List.getElem?_eq_getElem (by rw [hX]; simp)] at h1
          have := (Array.getElem?_eq_some_iff.1 h1).1
          rw [hX] at this
          simp at this ⊢
          omega
      by_cases hjm : j < m
      · rw [if_pos hjm, ← hA j]
        rcases hsize with hsize | hsize
        · rw [if_pos (by omega)]
        · rw [hsize] at hl
          simp at hl
          omega
      · rw [if_neg hjm, if_neg (by omega)]
    have hrow : (Op.equalIn (d + 2) f.type (.agg (A.extract o (o + m))) (.agg (B.extract o (o + m)))).run P w = .ok r1 w := by
      have hc : P.cellsOf el = 1 := by simp [Program.cellsOf, hi, hs]
      rw [run_equalIn_array w (d + 1) _ _ ht hi, hc, List.range_eq_range']
      have := items_eq he w d (A.extract o (o + m)) (B.extract o (o + m)) (xs.take m) (ys.take m) (X.take m) (Y.take m) 0 r1 (fun j => by rw [Nat.zero_add]; exact hex A X hA hXl j) (fun j => by rw [Nat.zero_add]; exact hex B Y hB (by omega) j) (hX.take m) (hY.take m) e1
      rw [hxm] at this
      exact this
    have hrest := ih (xs.drop m) (ys.drop m) (X.drop m) (Y.drop m) r2 (by rw [List.length_drop]; omega) (fun j => by rw [List.getElem?_drop, ← hA]; congr 1; omega) (fun j => by rw [List.getElem?_drop, ← hB]; congr 1; omega) (hX.drop m) (hY.drop m) e2
    simp only [Op.eqFields, hf, ne_eq, not_false_eq_true, if_true, Sem.run_bind, pa, pb, Result.andThen_ok, hrow]
    cases r1
    · simp [Sem.run_pure]
    · simpa using hrest
theorem struct_eql {P : Program} {t : TypeId} {n : Nat} (ht : P.underlying t = some (.struct (P.fieldsOf t))) (hp : P.stoodInHeld t = false) (hL : Lay P (P.fieldsOf t).toList 0 n)
    (hq : P.eqGuardType P.depth t = false) {β : Id → CA} {D : Id → Prop} {xs ys : List AV} {X Y : List Value} {r : Bool} (hX : VRs β D xs X) (hY : VRs β D ys Y) (hn : xs.length = n) (hc : ceqs xs ys = some r)
    (x y : Operand) (w : World) {op : BinOp} {ng : Bool} (ho : op = .eql ∧ ng = false ∨ op = .neq ∧ ng = true) :
    (do eqGuard op t x y (.agg X.toArray) (.agg Y.toArray); binOp op t (.agg X.toArray) (.agg Y.toArray) : Sem Value).run P w = .ok (.bool (ng != r)) w := by
  have hE : (Op.equalIn 10000 t (.agg X.toArray) (.agg Y.toArray)).run P w = .ok r w := by
    rw [show (10000 : Nat) = 9997 + 2 + 1 from rfl, run_equalIn_agg w (9997 + 2) t _ _ ht hp]
    exact flds_eq w 9997 _ _ hL xs ys X Y r hn (fun j => by simp) (fun j => by simp) hX hY hc
  rcases ho with ⟨rfl, rfl⟩ | ⟨rfl, rfl⟩
  · rw [Sem.run_bind, run_eqGuard_agg w _ _ x y _ _ hq]
    simp only [Result.andThen_ok]
    rw [run_eql_struct, hE]
    simp
  · rw [Sem.run_bind, run_eqGuard_agg w _ _ x y _ _ hq]
    simp only [Result.andThen_ok]
    rw [run_neq_struct, hE]
    simp
end Ev
end Go.Proofs.YthknbcbkibbncaaGreat

/- DERIVED. The evaluator's code out of the program's, made for the kernel: the same code, found with fewer steps. -/
set_option linter.unusedVariables false
namespace Go.Proofs.YthknbcbkibbncaaGreat
namespace Ev
namespace Cq
noncomputable def nthL {α : Type} (l : List α) (n : Nat) : Option α := List.rec (motive := fun _ => Nat → Option α) (fun _ => none) (fun a _ ih n => Nat.rec (motive := fun _ => Option α) (some a) (fun m _ => ih m) n) l n
theorem nthL_eq {α : Type} : ∀ (l : List α) (n : Nat), nthL l n = l[n]?
  | [], _ => rfl
  | _ :: _, 0 => rfl
  | _ :: l, n + 1 => (nthL_eq l n).trans (by simp)
noncomputable def natL (l : List Nat) (n : Nat) : Nat := List.rec (motive := fun _ => Nat → Nat) (fun _ => 0) (fun a _ ih n => Nat.rec (motive := fun _ => Nat) a (fun m _ => ih m) n) l n
theorem natL_eq : ∀ (l : List Nat) (n : Nat), natL l n = l[n]?.getD 0
  | [], _ => rfl
  | _ :: _, 0 => rfl
  | _ :: l, n + 1 => (natL_eq l n).trans (by simp)
noncomputable def ancL (acc : List Nat) (k : Nat) (l : List Edge) : Nat := match l with
  | [] => 0
  | ed :: l => match Region.binds .any ed && Nat.blt ed.on k with
    | true => Nat.lor (ancL acc k l) (Nat.lor (Nat.shiftLeft 1 ed.on) (natL acc (Nat.sub (Nat.sub k 1) ed.on)))
    | false => ancL acc k l
noncomputable def anc (acc : List Nat) (k : Nat) (l : List Oper) : List Nat := match l with
  | [] => acc.reverse
  | o :: l => anc (ancL acc k o.after.toList :: acc) (Nat.succ k) l
theorem ancL_eq (acc : List Nat) : ∀ l : List Edge, ancL acc acc.length l = Ev.ancL acc l
  | [] => rfl
  | ed :: l => by
    simp only [ancL, Ev.ancL, ancL_eq acc l, natL_eq]
    rfl
theorem anc_eq : ∀ (l : List Oper) (acc : List Nat), anc acc acc.length l = Ev.anc acc l
  | [], _ => rfl
  | o :: l, acc => by
    simp only [anc, Ev.anc, ancL_eq]
    exact anc_eq l (Ev.ancL acc o.after.toList :: acc)

def bitN (n : Nat) : Nat := Nat.shiftLeft 1 n
noncomputable def msk (l : List Nat) : Nat := List.rec (motive := fun _ => Nat) 0 (fun n _ m => Nat.lor (bitN n) m) l
noncomputable def mskD (d : Option Nat) : Nat := match d with
  | none => 0
  | some t => bitN t
theorem bitN_same (n : Nat) : Nat.testBit (bitN n) n = true := by
  show Nat.testBit (1 <<< n) n = true
  simp [Nat.testBit_shiftLeft]
theorem msk_mem : ∀ {l : List Nat} {n : Nat}, n ∈ l → Nat.testBit (msk l) n = true
  | [], _, h => by cases h
  | m :: l, n, h => by
    show Nat.testBit (bitN m ||| msk l) n = true
    rw [Nat.testBit_or]
    rcases List.mem_cons.1 h with rfl | h
    · rw [bitN_same, Bool.true_or]
    · rw [msk_mem h, Bool.or_true]
theorem mskD_some (t : Nat) : Nat.testBit (mskD (some t)) t = true := bitN_same t
theorem and_zero {a b n : Nat} (h : Nat.land a b = 0) (ha : Nat.testBit a n = true) : Nat.testBit b n = false := by
  have h1 : Nat.testBit (a &&& b) n = false := by
    show Nat.testBit (Nat.land a b) n = false
    rw [h]; simp
  rw [Nat.testBit_and, ha, Bool.true_and] at h1
  exact h1
structure SI where
  i : Nat
  b : Nat
  d : Nat
  r : Nat
noncomputable def slA (m d r : Nat) (acc : List SI) : Bool := List.rec (motive := fun _ => Bool) true (fun a _ ih => Bool.rec (motive := fun _ => Bool → Bool) (fun ih => ih)
  (fun ih => Bool.rec (motive := fun _ => Bool → Bool) (fun _ => false) (fun ih => ih) (Nat.beq (Nat.lor (Nat.land a.d (Nat.lor r d)) (Nat.land d a.r)) 0) ih) (Nat.beq (Nat.land m a.b) 0) ih) acc
noncomputable def slQ (l : List PS) (ms : List Nat) (acc : List SI) (i : Nat) : Bool := match l with
  | [] => true
  | o :: l => match ms with
    | [] => false
    | m :: ms => match slA m (mskD o.d) (msk (readsS o)) acc with
      | false => false
      | true => slQ l ms (⟨i, bitN i, mskD o.d, msk (readsS o)⟩ :: acc) (Nat.succ i)
theorem lor_zero {a b : Nat} (h : Nat.lor a b = 0) : a = 0 ∧ b = 0 := by
  have key : ∀ n, Nat.testBit a n = false ∧ Nat.testBit b n = false := fun n => by
    have h1 : Nat.testBit (a ||| b) n = false := by
      show Nat.testBit (Nat.lor a b) n = false
      rw [h]; simp
    rw [Nat.testBit_or, Bool.or_eq_false_iff] at h1
    exact h1
  exact ⟨Nat.eq_of_testBit_eq fun n => by rw [(key n).1]; simp, Nat.eq_of_testBit_eq fun n => by rw [(key n).2]; simp⟩
theorem slA_ok {m d r : Nat} : ∀ {acc : List SI}, slA m d r acc = true → ∀ a ∈ acc, Nat.land m a.b = 0 → Nat.land a.d (Nat.lor r d) = 0 ∧ Nat.land d a.r = 0
  | [], _, a, ha, _ => by cases ha
  | x :: acc, h, a, ha, hz => by
    have h' : Bool.rec (motive := fun _ => Bool → Bool) (fun ih => ih) (fun ih => Bool.rec (motive := fun _ => Bool → Bool) (fun _ => false) (fun ih => ih) (Nat.beq (Nat.lor (Nat.land x.d (Nat.lor r d)) (Nat.land d x.r)) 0) ih) (Nat.beq (Nat.land m x.b) 0) (slA m d r acc) = true := h
    cases h1 : Nat.beq (Nat.land m x.b) 0 with
    | false =>
      rw [h1] at h'
      rcases List.mem_cons.1 ha with rfl | ha
      · rw [hz] at h1; cases h1
      · exact slA_ok h' a ha hz
    | true =>
      rw [h1] at h'
      dsimp only at h'
      cases h2 : Nat.beq (Nat.lor (Nat.land x.d (Nat.lor r d)) (Nat.land d x.r)) 0 with
      | false => rw [h2] at h'; cases h'
      | true =>
        rw [h2] at h'
        rcases List.mem_cons.1 ha with rfl | ha
        · exact lor_zero (Nat.eq_of_beq_eq_true h2)
        · exact slA_ok h' a ha hz
theorem apart_of {a b : PS} (h1 : Nat.land (mskD a.d) (Nat.lor (msk (readsS b)) (mskD b.d)) = 0) (h2 : Nat.land (mskD b.d) (msk (readsS a)) = 0) : apartS a b = true ∧ apartS b a = true := by
  have hab : ∀ t, a.d = some t → Nat.testBit (msk (readsS b)) t = false ∧ Nat.testBit (mskD b.d) t = false := fun t ht => by
    have := and_zero h1 (n := t) (by rw [ht]; exact mskD_some t)
    have h3 : Nat.testBit (msk (readsS b) ||| mskD b.d) t = false := this
    rw [Nat.testBit_or, Bool.or_eq_false_iff] at h3
    exact h3
  have ne : ∀ t u, a.d = some t → b.d = some u → t ≠ u := fun t u ht hu e => by
    have := (hab t ht).2
    rw [hu, e, mskD_some] at this
    cases this
  constructor
  · unfold apartS
    cases ha : a.d with
    | none => rfl
    | some t =>
      dsimp only
      have hn : t ∉ readsS b := fun hm => by have h3 := (hab t ha).1; rw [msk_mem hm] at h3; cases h3
      have : (readsS b).contains t = false := by simpa using hn
      rw [this]
      cases hb : b.d with
      | none => rfl
      | some u =>
        have := ne t u ha hb
        simp only [Bool.not_false, Bool.true_and]
        have hne : (some u == some t) = false := by simpa using fun e => this e.symm
        rw [hne]
        rfl
  · unfold apartS
    cases hb : b.d with
    | none => rfl
    | some u =>
      dsimp only
      have h3 := and_zero h2 (n := u) (by rw [hb]; exact mskD_some u)
      have hn : u ∉ readsS a := fun hm => by rw [msk_mem hm] at h3; cases h3
      have : (readsS a).contains u = false := by simpa using hn
      rw [this]
      cases ha : a.d with
      | none => rfl
      | some t =>
        have := ne t u ha hb
        simp only [Bool.not_false, Bool.true_and]
        have hne : (some t == some u) = false := by simpa using this
        rw [hne]
        rfl
theorem land_bit {m i : Nat} (h : Nat.testBit m i = false) : Nat.land m (bitN i) = 0 := by
  apply Nat.eq_of_testBit_eq
  intro n
  show Nat.testBit (m &&& (1 <<< i)) n = _
  rw [Nat.testBit_and, Nat.zero_testBit]
  by_cases hn : n = i
  · subst hn; rw [h, Bool.false_and]
  · have : Nat.testBit (1 <<< i) n = false := by
      simp only [Nat.shiftLeft_eq, Nat.one_mul]
      rw [Nat.testBit_two_pow]
      simpa using fun e => hn e.symm
    rw [this, Bool.and_false]
theorem slQ_ok : ∀ (l : List PS) (ms : List Nat) (pre : List PS) (acc : List SI), slQ l ms acc pre.length = true →
    (∀ i a, pre[i]? = some a → (⟨i, bitN i, mskD a.d, msk (readsS a)⟩ : SI) ∈ acc) →
    ∀ i j a b, i < j → pre.length ≤ j → (pre ++ l)[i]? = some a → (pre ++ l)[j]? = some b → Nat.testBit (ms[j - pre.length]?.getD 0) i = false → apartS a b = true ∧ apartS b a = true
  | [], ms, pre, acc, h, hp, i, j, a, b, hij, hj, ha, hb, ht => by
    rw [List.append_nil, List.getElem?_eq_none hj] at hb
    cases hb
  | o :: l, [], pre, acc, h, hp, i, j, a, b, hij, hj, ha, hb, ht => by simp [slQ] at h
  | o :: l, m :: ms, pre, acc, h, hp, i, j, a, b, hij, hj, ha, hb, ht => by
    simp only [slQ] at h
    cases hs : slA m (mskD o.d) (msk (readsS o)) acc with
    | false => rw [hs] at h; cases h
    | true =>
      rw [hs] at h
      dsimp only at h
      by_cases he : j = pre.length
      · subst he
        rw [List.getElem?_append_right (Nat.le_refl _), Nat.sub_self] at hb
        simp only [List.getElem?_cons_zero, Option.some.injEq] at hb
        subst hb
        rw [List.getElem?_append_left hij] at ha
        rw [Nat.sub_self] at ht
        simp only [List.getElem?_cons_zero, Option.getD_some] at ht
        have := slA_ok hs _ (hp i a ha) (land_bit ht)
        exact apart_of this.1 this.2
      · have hl : (pre ++ [o]).length = pre.length + 1 := by simp
        refine slQ_ok l ms (pre ++ [o]) (⟨pre.length, bitN pre.length, mskD o.d, msk (readsS o)⟩ :: acc) (by rw [hl]; exact h) (fun i' a' hi' => ?_) i j a b hij (by omega) (by rw [List.append_assoc]; exact ha) (by rw [List.append_assoc]; exact hb) ?_
        · by_cases hq : i' < pre.length
          · rw [List.getElem?_append_left hq] at hi'
            exact List.mem_cons_of_mem _ (hp i' a' hi')
          · rw [List.getElem?_append_right (by omega)] at hi'
            have h0 : i' = pre.length := by
              rcases Nat.lt_or_ge (i' - pre.length) 1 with h1 | h1
              · omega
              · rw [List.getElem?_eq_none (by simpa using h1)] at hi'; cases hi'
            subst h0
            simp at hi'
            subst hi'
            exact List.mem_cons_self ..
        · rw [hl]
          have e : j - pre.length = (j - (pre.length + 1)) + 1 := by omega
          rw [e, List.getElem?_cons_succ] at ht
          exact ht
theorem slQ_slots {l : List PS} {ms : List Nat} (h : slQ l ms [] 0 = true) : slotsOk l ms = true := by
  unfold slotsOk
  rw [List.all_eq_true]
  intro j hj
  rw [List.all_eq_true]
  intro i hi
  rw [List.mem_range] at hj hi
  cases ht : Nat.testBit (ms[j]?.getD 0) i with
  | true => rfl
  | false =>
    obtain ⟨a, ha⟩ : ∃ a, l[i]? = some a := ⟨l[i], by simp [show i < l.length by omega]⟩
    obtain ⟨b, hb⟩ : ∃ b, l[j]? = some b := ⟨l[j], by simp [hj]⟩
    have := slQ_ok l ms [] [] h (fun i a hi => by simp at hi) i j a b hi (Nat.zero_le _) ha hb ht
    rw [ha, hb]
    simp only [Bool.false_or, this.1, this.2, Bool.and_self]
/- the code -/
noncomputable def cG (N : Nat) (ops : List Oper) (g : Option (Nat × Bool)) : Option (Option (Nat × Bool)) := match g with
  | none => some none
  | some jw => (nthL ops jw.1).bind fun o' => o'.dst.bind fun gd => (guardB (Nat.blt gd N)).bind fun _ => some (some (gd, jw.2))
theorem cG_eq (N : Nat) (ops : List Oper) (g : Option (Nat × Bool)) : cG N ops g = Ev.cG N ops g := by
  cases g with
  | none => rfl
  | some jw => simp only [cG, Ev.cG, nthL_eq]
noncomputable def cS (Y : Ty) (N : Nat) (ops : List Oper) (o : Oper) : Option PS := (cOp Y o.op).bind fun p => (cG N ops o.guard).bind fun g => (guardB (dstOk N o.dst)).bind fun _ => some ⟨g, o.dst, p⟩
noncomputable def cSs (Y : Ty) (N : Nat) (ops l : List Oper) : Option (List PS) := match l with
  | [] => some []
  | o :: l => (cS Y N ops o).bind fun a => (cSs Y N ops l).bind fun as9 => some (a :: as9)
theorem cSs_eq (Y : Ty) (N : Nat) (ops : List Oper) : ∀ l : List Oper, cSs Y N ops l = Ev.cSs Y N ops l
  | [] => rfl
  | o :: l => by simp only [cSs, Ev.cSs, cS, Ev.cS, cG_eq, cSs_eq Y N ops l]
noncomputable def cC (Y : Ty) (N : Nat) (c : Code) : Option PC := match c with
  | .skip => some .skip
  | .ret => some .ret
  | .exit id => some (.exit id)
  | .seq a b => (cC Y N a).bind fun a => (cC Y N b).bind fun b => some (.seq a b)
  | .cond x a b => (cA x).bind fun x => (cC Y N a).bind fun a => (cC Y N b).bind fun b => some (.cond x a b)
  | .block id b => (cC Y N b).bind fun p => some (.block id p)
  | .loop b => (cC Y N b).bind fun p => some (.loop p)
  | .region _ ops d => (cSs Y N ops.toList ops.toList).bind fun l => match d with
    | false => some (.reg l)
    | true => (fun ms => (guardB (slQ l ms [] 0 && backOk 0 ops.toList)).bind fun _ => some (.drw l ms)) (anc [] 0 ops.toList)
  | _ => none
theorem bind_mono {α β : Type} {o o' : Option α} {f f' : α → Option β} {x : β} (h : o.bind f = some x) (ho : ∀ a, o = some a → o' = some a) (hf : ∀ a, f a = some x → f' a = some x) : o'.bind f' = some x := by
  cases o with
  | none => cases h
  | some a => rw [ho a rfl]; exact hf a h
theorem cC_ok (Y : Ty) (N : Nat) : ∀ (c : Code) (x : PC), cC Y N c = some x → Ev.cC Y N c = some x
  | .skip, _, h => h
  | .ret, _, h => h
  | .exit _, _, h => h
  | .seq a b, x, h => bind_mono h (fun y hy => cC_ok Y N a y hy) fun a h => bind_mono h (fun y hy => cC_ok Y N b y hy) fun _ h => h
  | .cond c a b, x, h => bind_mono h (fun _ hy => hy) fun _ h => bind_mono h (fun y hy => cC_ok Y N a y hy) fun a h => bind_mono h (fun y hy => cC_ok Y N b y hy) fun _ h => h
  | .block _ b, x, h => bind_mono h (fun y hy => cC_ok Y N b y hy) fun _ h => h
  | .loop b, x, h => bind_mono h (fun y hy => cC_ok Y N b y hy) fun _ h => h
  | .region p ops d, x, h => by
    simp only [cC, cSs_eq] at h
    simp only [Ev.cC]
    refine bind_mono h (fun _ hy => hy) fun l h => ?_
    cases d with
    | false => exact h
    | true =>
      dsimp only at h ⊢
      have he := anc_eq ops.toList []
      simp only [List.length_nil] at he
      rw [he] at h
      cases hg : (slQ l (Ev.anc [] ops.toList) [] 0 && backOk 0 ops.toList) with
      | false => rw [hg] at h; cases h
      | true =>
        rw [hg] at h
        rw [Bool.and_eq_true] at hg
        rw [slQ_slots hg.1, hg.2]
        exact h
noncomputable def cF (Y : Ty) (fn : Func) : Option PF := fn.body.bind fun c => (cC Y fn.ntmps c).bind fun b => (cRs Y fn.results.toList).bind fun rs => some (.f b rs)
theorem cF_ok {Y : Ty} {fn : Func} {x : PF} (h : cF Y fn = some x) : Ev.cF Y fn = some x :=
  bind_mono h (fun _ hy => hy) fun c h => bind_mono h (fun y hy => cC_ok Y fn.ntmps c y hy) fun _ h => h
end Cq
end Ev
end Go.Proofs.YthknbcbkibbncaaGreat

/- DERIVED,printed by mkty.py. The seat's tables for the evaluator. -/
set_option linter.unusedVariables false
set_option maxRecDepth 100000
namespace Go.Proofs.YthknbcbkibbncaaGreat
namespace Ev
open Go.RowKit
inductive T (α : Type) where
  | e
  | n (v : Option α) (l r : T α)
def T.get {α : Type} (t : T α) (k : Nat) : Option α := match t with
  | .e => none
  | .n v l r => match k with
    | 0 => v
    | k + 1 => match Nat.beq (k % 2) 0 with
      | true => l.get (k / 2)
      | false => r.get (k / 2)
inductive All {α : Type} (p : Nat → α → Prop) : (Nat → Nat) → T α → Prop where
  | e (g : Nat → Nat) : All p g .e
  | n (g : Nat → Nat) (v : Option α) (l r : T α) : (∀ x,v = some x → p (g 0) x) → All p (fun k => g (2 * k + 1)) l → All p (fun k => g (2 * k + 2)) r → All p g (.n v l r)
section
variable {α : Type} {p : Nat → α → Prop} {g : Nat → Nat}
theorem all_e : All p g (.e : T α) := .e g
theorem all_o {l r : T α} (hl : All p (fun k => g (2 * k + 1)) l) (hr : All p (fun k => g (2 * k + 2)) r) : All p g (.n none l r) := .n g none l r (fun x h => nomatch h) hl hr
theorem all_n {x : α} {l r : T α} (h : p (g 0) x) (hl : All p (fun k => g (2 * k + 1)) l) (hr : All p (fun k => g (2 * k + 2)) r) : All p g (.n (some x) l r) :=
  .n g (some x) l r (fun y e => by cases e; exact h) hl hr
theorem All.get {t : T α} (h : All p g t) : ∀ {k : Nat} {x : α},t.get k = some x → p (g k) x := by
  induction h with
  | e g => intro k x hx; cases k <;> simp [T.get] at hx
  | n g v l r h0 hl hr il ir =>
    intro k x hx
    cases k with
    | zero => exact h0 x hx
    | succ k =>
      simp only [T.get] at hx
      cases hb : Nat.beq (k % 2) 0 with
      | true =>
        rw [hb] at hx
        have := Nat.eq_of_beq_eq_true hb
        have h1 := il hx
        have e : 2 * (k / 2) + 1 = k + 1 := by omega
        simp only [e] at h1
        exact h1
      | false =>
        rw [hb] at hx
        have : k % 2 ≠ 0 := Nat.ne_of_beq_eq_false hb
        have h1 := ir hx
        have e : 2 * (k / 2) + 2 = k + 1 := by omega
        simp only [e] at h1
        exact h1
end
noncomputable def tyT : T TypeInfo := (.n (some Tryz.t0) (.n (some Tryz.t1) (.n (some Tryz.t3) (.n (some Tryz.t7) (.n (some Tryz.t15) (.n (some Tryz.t31) (.n (some Tryz.t63) (.n (some Tryz.t127) (.n (some Tryz.t255) (.n (some Tryz.t511) .e .e) .e) (.n (some Tryz.t383) .e .e)) (.n (some Tryz.t191) (.n (some Tryz.t319) .e .e) (.n (some Tryz.t447) .e .e))) (.n (some Tryz.t95) (.n (some Tryz.t159) (.n (some Tryz.t287) (.n (some Tryz.t543) .e .e) .e) (.n (some Tryz.t415) .e .e)) (.n (some Tryz.t223) (.n (some Tryz.t351) .e .e) (.n (some Tryz.t479) .e .e)))) (.n (some Tryz.t47) (.n (some Tryz.t79) (.n (some Tryz.t143) (.n (some Tryz.t271) (.n (some Tryz.t527) .e .e) .e) (.n (some Tryz.t399) .e .e)) (.n (some Tryz.t207) (.n (some Tryz.t335) .e .e) (.n (some Tryz.t463) .e .e))) (.n (some Tryz.t111) (.n (some Tryz.t175) (.n (some Tryz.t303) (.n (some Tryz.t559) .e .e) .e) (.n (some Tryz.t431) .e .e)) (.n (some Tryz.t239) (.n (some Tryz.t367) .e .e) (.n (some Tryz.t495) .e .e))))) (.n (some Tryz.t23) (.n (some Tryz.t39) (.n (some Tryz.t71) (.n (some Tryz.t135) (.n (some Tryz.t263) (.n (some Tryz.t519) .e .e) .e) (.n (some Tryz.t391) .e .e)) (.n (some Tryz.t199) (.n (some Tryz.t327) .e .e) (.n (some Tryz.t455) .e .e))) (.n (some Tryz.t103) (.n (some Tryz.t167) (.n (some Tryz.t295) (.n (some Tryz.t551) .e .e) .e) (.n (some Tryz.t423) .e .e)) (.n (some Tryz.t231) (.n (some Tryz.t359) .e .e) (.n (some Tryz.t487) .e .e)))) (.n (some Tryz.t55) (.n (some Tryz.t87) (.n (some Tryz.t151) (.n (some Tryz.t279) (.n (some Tryz.t535) .e .e) .e) (.n (some Tryz.t407) .e .e)) (.n (some Tryz.t215) (.n (some Tryz.t343) .e .e) (.n (some Tryz.t471) .e .e))) (.n (some Tryz.t119) (.n (some Tryz.t183) (.n (some Tryz.t311) .e .e) (.n (some Tryz.t439) .e .e)) (.n (some Tryz.t247) (.n (some Tryz.t375) .e .e) (.n (some Tryz.t503) .e .e)))))) (.n (some Tryz.t11) (.n (some Tryz.t19) (.n (some Tryz.t35) (.n (some Tryz.t67) (.n (some Tryz.t131) (.n (some Tryz.t259) (.n (some Tryz.t515) .e .e) .e) (.n (some Tryz.t387) .e .e)) (.n (some Tryz.t195) (.n (some Tryz.t323) .e .e) (.n (some Tryz.t451) .e .e))) (.n (some Tryz.t99) (.n (some Tryz.t163) (.n (some Tryz.t291) (.n (some Tryz.t547) .e .e) .e) (.n (some Tryz.t419) .e .e)) (.n (some Tryz.t227) (.n (some Tryz.t355) .e .e) (.n (some Tryz.t483) .e .e)))) (.n (some Tryz.t51) (.n (some Tryz.t83) (.n (some Tryz.t147) (.n (some Tryz.t275) (.n (some Tryz.t531) .e .e) .e) (.n (some Tryz.t403) .e .e)) (.n (some Tryz.t211) (.n (some Tryz.t339) .e .e) (.n (some Tryz.t467) .e .e))) (.n (some Tryz.t115) (.n (some Tryz.t179) (.n (some Tryz.t307) (.n (some Tryz.t563) .e .e) .e) (.n (some Tryz.t435) .e .e)) (.n (some Tryz.t243) (.n (some Tryz.t371) .e .e) (.n (some Tryz.t499) .e .e))))) (.n (some Tryz.t27) (.n (some Tryz.t43) (.n (some Tryz.t75) (.n (some Tryz.t139) (.n (some Tryz.t267) (.n (some Tryz.t523) .e .e) .e) (.n (some Tryz.t395) .e .e)) (.n (some Tryz.t203) (.n (some Tryz.t331) .e .e) (.n (some Tryz.t459) .e .e))) (.n (some Tryz.t107) (.n (some Tryz.t171) (.n (some Tryz.t299) (.n (some Tryz.t555) .e .e) .e) (.n (some Tryz.t427) .e .e)) (.n (some Tryz.t235) (.n (some Tryz.t363) .e .e) (.n (some Tryz.t491) .e .e)))) (.n (some Tryz.t59) (.n (some Tryz.t91) (.n (some Tryz.t155) (.n (some Tryz.t283) (.n (some Tryz.t539) .e .e) .e) (.n (some Tryz.t411) .e .e)) (.n (some Tryz.t219) (.n (some Tryz.t347) .e .e) (.n (some Tryz.t475) .e .e))) (.n (some Tryz.t123) (.n (some Tryz.t187) (.n (some Tryz.t315) .e .e) (.n (some Tryz.t443) .e .e)) (.n (some Tryz.t251) (.n (some Tryz.t379) .e .e) (.n (some Tryz.t507) .e .e))))))) (.n (some Tryz.t5) (.n (some Tryz.t9) (.n (some Tryz.t17) (.n (some Tryz.t33) (.n (some Tryz.t65) (.n (some Tryz.t129) (.n (some Tryz.t257) (.n (some Tryz.t513) .e .e) .e) (.n (some Tryz.t385) .e .e)) (.n (some Tryz.t193) (.n (some Tryz.t321) .e .e) (.n (some Tryz.t449) .e .e))) (.n (some Tryz.t97) (.n (some Tryz.t161) (.n (some Tryz.t289) (.n (some Tryz.t545) .e .e) .e) (.n (some Tryz.t417) .e .e)) (.n (some Tryz.t225) (.n (some Tryz.t353) .e .e) (.n (some Tryz.t481) .e .e)))) (.n (some Tryz.t49) (.n (some Tryz.t81) (.n (some Tryz.t145) (.n (some Tryz.t273) (.n (some Tryz.t529) .e .e) .e) (.n (some Tryz.t401) .e .e)) (.n (some Tryz.t209) (.n (some Tryz.t337) .e .e) (.n (some Tryz.t465) .e .e))) (.n (some Tryz.t113) (.n (some Tryz.t177) (.n (some Tryz.t305) (.n (some Tryz.t561) .e .e) .e) (.n (some Tryz.t433) .e .e)) (.n (some Tryz.t241) (.n (some Tryz.t369) .e .e) (.n (some Tryz.t497) .e .e))))) (.n (some Tryz.t25) (.n (some Tryz.t41) (.n (some Tryz.t73) (.n (some Tryz.t137) (.n (some Tryz.t265) (.n (some Tryz.t521) .e .e) .e) (.n (some Tryz.t393) .e .e)) (.n (some Tryz.t201) (.n (some Tryz.t329) .e .e) (.n (some Tryz.t457) .e .e))) (.n (some Tryz.t105) (.n (some Tryz.t169) (.n (some Tryz.t297) (.n (some Tryz.t553) .e .e) .e) (.n (some Tryz.t425) .e .e)) (.n (some Tryz.t233) (.n (some Tryz.t361) .e .e) (.n (some Tryz.t489) .e .e)))) (.n (some Tryz.t57) (.n (some Tryz.t89) (.n (some Tryz.t153) (.n (some Tryz.t281) (.n (some Tryz.t537) .e .e) .e) (.n (some Tryz.t409) .e .e)) (.n (some Tryz.t217) (.n (some Tryz.t345) .e .e) (.n (some Tryz.t473) .e .e))) (.n (some Tryz.t121) (.n (some Tryz.t185) (.n (some Tryz.t313) .e .e) (.n (some Tryz.t441) .e .e)) (.n (some Tryz.t249) (.n (some Tryz.t377) .e .e) (.n (some Tryz.t505) .e .e)))))) (.n (some Tryz.t13) (.n (some Tryz.t21) (.n (some Tryz.t37) (.n (some Tryz.t69) (.n (some Tryz.t133) (.n (some Tryz.t261) (.n (some Tryz.t517) .e .e) .e) (.n (some Tryz.t389) .e .e)) (.n (some Tryz.t197) (.n (some Tryz.t325) .e .e) (.n (some Tryz.t453) .e .e))) (.n (some Tryz.t101) (.n (some Tryz.t165) (.n (some Tryz.t293) (.n (some Tryz.t549) .e .e) .e) (.n (some Tryz.t421) .e .e)) (.n (some Tryz.t229) (.n (some Tryz.t357) .e .e) (.n (some Tryz.t485) .e .e)))) (.n (some Tryz.t53) (.n (some Tryz.t85) (.n (some Tryz.t149) (.n (some Tryz.t277) (.n (some Tryz.t533) .e .e) .e) (.n (some Tryz.t405) .e .e)) (.n (some Tryz.t213) (.n (some Tryz.t341) .e .e) (.n (some Tryz.t469) .e .e))) (.n (some Tryz.t117) (.n (some Tryz.t181) (.n (some Tryz.t309) .e .e) (.n (some Tryz.t437) .e .e)) (.n (some Tryz.t245) (.n (some Tryz.t373) .e .e) (.n (some Tryz.t501) .e .e))))) (.n (some Tryz.t29) (.n (some Tryz.t45) (.n (some Tryz.t77) (.n (some Tryz.t141) (.n (some Tryz.t269) (.n (some Tryz.t525) .e .e) .e) (.n (some Tryz.t397) .e .e)) (.n (some Tryz.t205) (.n (some Tryz.t333) .e .e) (.n (some Tryz.t461) .e .e))) (.n (some Tryz.t109) (.n (some Tryz.t173) (.n (some Tryz.t301) (.n (some Tryz.t557) .e .e) .e) (.n (some Tryz.t429) .e .e)) (.n (some Tryz.t237) (.n (some Tryz.t365) .e .e) (.n (some Tryz.t493) .e .e)))) (.n (some Tryz.t61) (.n (some Tryz.t93) (.n (some Tryz.t157) (.n (some Tryz.t285) (.n (some Tryz.t541) .e .e) .e) (.n (some Tryz.t413) .e .e)) (.n (some Tryz.t221) (.n (some Tryz.t349) .e .e) (.n (some Tryz.t477) .e .e))) (.n (some Tryz.t125) (.n (some Tryz.t189) (.n (some Tryz.t317) .e .e) (.n (some Tryz.t445) .e .e)) (.n (some Tryz.t253) (.n (some Tryz.t381) .e .e) (.n (some Tryz.t509) .e .e)))))))) (.n (some Tryz.t2) (.n (some Tryz.t4) (.n (some Tryz.t8) (.n (some Tryz.t16) (.n (some Tryz.t32) (.n (some Tryz.t64) (.n (some Tryz.t128) (.n (some Tryz.t256) (.n (some Tryz.t512) .e .e) .e) (.n (some Tryz.t384) .e .e)) (.n (some Tryz.t192) (.n (some Tryz.t320) .e .e) (.n (some Tryz.t448) .e .e))) (.n (some Tryz.t96) (.n (some Tryz.t160) (.n (some Tryz.t288) (.n (some Tryz.t544) .e .e) .e) (.n (some Tryz.t416) .e .e)) (.n (some Tryz.t224) (.n (some Tryz.t352) .e .e) (.n (some Tryz.t480) .e .e)))) (.n (some Tryz.t48) (.n (some Tryz.t80) (.n (some Tryz.t144) (.n (some Tryz.t272) (.n (some Tryz.t528) .e .e) .e) (.n (some Tryz.t400) .e .e)) (.n (some Tryz.t208) (.n (some Tryz.t336) .e .e) (.n (some Tryz.t464) .e .e))) (.n (some Tryz.t112) (.n (some Tryz.t176) (.n (some Tryz.t304) (.n (some Tryz.t560) .e .e) .e) (.n (some Tryz.t432) .e .e)) (.n (some Tryz.t240) (.n (some Tryz.t368) .e .e) (.n (some Tryz.t496) .e .e))))) (.n (some Tryz.t24) (.n (some Tryz.t40) (.n (some Tryz.t72) (.n (some Tryz.t136) (.n (some Tryz.t264) (.n (some Tryz.t520) .e .e) .e) (.n (some Tryz.t392) .e .e)) (.n (some Tryz.t200) (.n (some Tryz.t328) .e .e) (.n (some Tryz.t456) .e .e))) (.n (some Tryz.t104) (.n (some Tryz.t168) (.n (some Tryz.t296) (.n (some Tryz.t552) .e .e) .e) (.n (some Tryz.t424) .e .e)) (.n (some Tryz.t232) (.n (some Tryz.t360) .e .e) (.n (some Tryz.t488) .e .e)))) (.n (some Tryz.t56) (.n (some Tryz.t88) (.n (some Tryz.t152) (.n (some Tryz.t280) (.n (some Tryz.t536) .e .e) .e) (.n (some Tryz.t408) .e .e)) (.n (some Tryz.t216) (.n (some Tryz.t344) .e .e) (.n (some Tryz.t472) .e .e))) (.n (some Tryz.t120) (.n (some Tryz.t184) (.n (some Tryz.t312) .e .e) (.n (some Tryz.t440) .e .e)) (.n (some Tryz.t248) (.n (some Tryz.t376) .e .e) (.n (some Tryz.t504) .e .e)))))) (.n (some Tryz.t12) (.n (some Tryz.t20) (.n (some Tryz.t36) (.n (some Tryz.t68) (.n (some Tryz.t132) (.n (some Tryz.t260) (.n (some Tryz.t516) .e .e) .e) (.n (some Tryz.t388) .e .e)) (.n (some Tryz.t196) (.n (some Tryz.t324) .e .e) (.n (some Tryz.t452) .e .e))) (.n (some Tryz.t100) (.n (some Tryz.t164) (.n (some Tryz.t292) (.n (some Tryz.t548) .e .e) .e) (.n (some Tryz.t420) .e .e)) (.n (some Tryz.t228) (.n (some Tryz.t356) .e .e) (.n (some Tryz.t484) .e .e)))) (.n (some Tryz.t52) (.n (some Tryz.t84) (.n (some Tryz.t148) (.n (some Tryz.t276) (.n (some Tryz.t532) .e .e) .e) (.n (some Tryz.t404) .e .e)) (.n (some Tryz.t212) (.n (some Tryz.t340) .e .e) (.n (some Tryz.t468) .e .e))) (.n (some Tryz.t116) (.n (some Tryz.t180) (.n (some Tryz.t308) .e .e) (.n (some Tryz.t436) .e .e)) (.n (some Tryz.t244) (.n (some Tryz.t372) .e .e) (.n (some Tryz.t500) .e .e))))) (.n (some Tryz.t28) (.n (some Tryz.t44) (.n (some Tryz.t76) (.n (some Tryz.t140) (.n (some Tryz.t268) (.n (some Tryz.t524) .e .e) .e) (.n (some Tryz.t396) .e .e)) (.n (some Tryz.t204) (.n (some Tryz.t332) .e .e) (.n (some Tryz.t460) .e .e))) (.n (some Tryz.t108) (.n (some Tryz.t172) (.n (some Tryz.t300) (.n (some Tryz.t556) .e .e) .e) (.n (some Tryz.t428) .e .e)) (.n (some Tryz.t236) (.n (some Tryz.t364) .e .e) (.n (some Tryz.t492) .e .e)))) (.n (some Tryz.t60) (.n (some Tryz.t92) (.n (some Tryz.t156) (.n (some Tryz.t284) (.n (some Tryz.t540) .e .e) .e) (.n (some Tryz.t412) .e .e)) (.n (some Tryz.t220) (.n (some Tryz.t348) .e .e) (.n (some Tryz.t476) .e .e))) (.n (some Tryz.t124) (.n (some Tryz.t188) (.n (some Tryz.t316) .e .e) (.n (some Tryz.t444) .e .e)) (.n (some Tryz.t252) (.n (some Tryz.t380) .e .e) (.n (some Tryz.t508) .e .e))))))) (.n (some Tryz.t6) (.n (some Tryz.t10) (.n (some Tryz.t18) (.n (some Tryz.t34) (.n (some Tryz.t66) (.n (some Tryz.t130) (.n (some Tryz.t258) (.n (some Tryz.t514) .e .e) .e) (.n (some Tryz.t386) .e .e)) (.n (some Tryz.t194) (.n (some Tryz.t322) .e .e) (.n (some Tryz.t450) .e .e))) (.n (some Tryz.t98) (.n (some Tryz.t162) (.n (some Tryz.t290) (.n (some Tryz.t546) .e .e) .e) (.n (some Tryz.t418) .e .e)) (.n (some Tryz.t226) (.n (some Tryz.t354) .e .e) (.n (some Tryz.t482) .e .e)))) (.n (some Tryz.t50) (.n (some Tryz.t82) (.n (some Tryz.t146) (.n (some Tryz.t274) (.n (some Tryz.t530) .e .e) .e) (.n (some Tryz.t402) .e .e)) (.n (some Tryz.t210) (.n (some Tryz.t338) .e .e) (.n (some Tryz.t466) .e .e))) (.n (some Tryz.t114) (.n (some Tryz.t178) (.n (some Tryz.t306) (.n (some Tryz.t562) .e .e) .e) (.n (some Tryz.t434) .e .e)) (.n (some Tryz.t242) (.n (some Tryz.t370) .e .e) (.n (some Tryz.t498) .e .e))))) (.n (some Tryz.t26) (.n (some Tryz.t42) (.n (some Tryz.t74) (.n (some Tryz.t138) (.n (some Tryz.t266) (.n (some Tryz.t522) .e .e) .e) (.n (some Tryz.t394) .e .e)) (.n (some Tryz.t202) (.n (some Tryz.t330) .e .e) (.n (some Tryz.t458) .e .e))) (.n (some Tryz.t106) (.n (some Tryz.t170) (.n (some Tryz.t298) (.n (some Tryz.t554) .e .e) .e) (.n (some Tryz.t426) .e .e)) (.n (some Tryz.t234) (.n (some Tryz.t362) .e .e) (.n (some Tryz.t490) .e .e)))) (.n (some Tryz.t58) (.n (some Tryz.t90) (.n (some Tryz.t154) (.n (some Tryz.t282) (.n (some Tryz.t538) .e .e) .e) (.n (some Tryz.t410) .e .e)) (.n (some Tryz.t218) (.n (some Tryz.t346) .e .e) (.n (some Tryz.t474) .e .e))) (.n (some Tryz.t122) (.n (some Tryz.t186) (.n (some Tryz.t314) .e .e) (.n (some Tryz.t442) .e .e)) (.n (some Tryz.t250) (.n (some Tryz.t378) .e .e) (.n (some Tryz.t506) .e .e)))))) (.n (some Tryz.t14) (.n (some Tryz.t22) (.n (some Tryz.t38) (.n (some Tryz.t70) (.n (some Tryz.t134) (.n (some Tryz.t262) (.n (some Tryz.t518) .e .e) .e) (.n (some Tryz.t390) .e .e)) (.n (some Tryz.t198) (.n (some Tryz.t326) .e .e) (.n (some Tryz.t454) .e .e))) (.n (some Tryz.t102) (.n (some Tryz.t166) (.n (some Tryz.t294) (.n (some Tryz.t550) .e .e) .e) (.n (some Tryz.t422) .e .e)) (.n (some Tryz.t230) (.n (some Tryz.t358) .e .e) (.n (some Tryz.t486) .e .e)))) (.n (some Tryz.t54) (.n (some Tryz.t86) (.n (some Tryz.t150) (.n (some Tryz.t278) (.n (some Tryz.t534) .e .e) .e) (.n (some Tryz.t406) .e .e)) (.n (some Tryz.t214) (.n (some Tryz.t342) .e .e) (.n (some Tryz.t470) .e .e))) (.n (some Tryz.t118) (.n (some Tryz.t182) (.n (some Tryz.t310) .e .e) (.n (some Tryz.t438) .e .e)) (.n (some Tryz.t246) (.n (some Tryz.t374) .e .e) (.n (some Tryz.t502) .e .e))))) (.n (some Tryz.t30) (.n (some Tryz.t46) (.n (some Tryz.t78) (.n (some Tryz.t142) (.n (some Tryz.t270) (.n (some Tryz.t526) .e .e) .e) (.n (some Tryz.t398) .e .e)) (.n (some Tryz.t206) (.n (some Tryz.t334) .e .e) (.n (some Tryz.t462) .e .e))) (.n (some Tryz.t110) (.n (some Tryz.t174) (.n (some Tryz.t302) (.n (some Tryz.t558) .e .e) .e) (.n (some Tryz.t430) .e .e)) (.n (some Tryz.t238) (.n (some Tryz.t366) .e .e) (.n (some Tryz.t494) .e .e)))) (.n (some Tryz.t62) (.n (some Tryz.t94) (.n (some Tryz.t158) (.n (some Tryz.t286) (.n (some Tryz.t542) .e .e) .e) (.n (some Tryz.t414) .e .e)) (.n (some Tryz.t222) (.n (some Tryz.t350) .e .e) (.n (some Tryz.t478) .e .e))) (.n (some Tryz.t126) (.n (some Tryz.t190) (.n (some Tryz.t318) .e .e) (.n (some Tryz.t446) .e .e)) (.n (some Tryz.t254) (.n (some Tryz.t382) .e .e) (.n (some Tryz.t510) .e .e)))))))))
noncomputable def fnT : T Func := (.n none (.n none (.n (some Tryz.f3) (.n (some Tryz.f7) (.n (some Tryz.f15) (.n (some Tryz.f31) (.n (some Tryz.f63) (.n (some Tryz.f127) (.n (some Tryz.f255) .e .e) (.n (some Tryz.f383) .e .e)) (.n (some Tryz.f191) (.n (some Tryz.f319) .e .e) (.n (some Tryz.f447) .e .e))) (.n (some Tryz.f95) (.n (some Tryz.f159) (.n (some Tryz.f287) .e .e) (.n (some Tryz.f415) .e .e)) (.n (some Tryz.f223) (.n (some Tryz.f351) .e .e) (.n (some Tryz.f479) .e .e)))) (.n (some Tryz.f47) (.n (some Tryz.f79) (.n (some Tryz.f143) (.n (some Tryz.f271) .e .e) (.n (some Tryz.f399) .e .e)) (.n (some Tryz.f207) (.n (some Tryz.f335) .e .e) (.n (some Tryz.f463) .e .e))) (.n (some Tryz.f111) (.n (some Tryz.f175) (.n (some Tryz.f303) .e .e) (.n (some Tryz.f431) .e .e)) (.n (some Tryz.f239) (.n (some Tryz.f367) .e .e) .e)))) (.n (some Tryz.f23) (.n (some Tryz.f39) (.n (some Tryz.f71) (.n (some Tryz.f135) (.n (some Tryz.f263) .e .e) (.n (some Tryz.f391) .e .e)) (.n (some Tryz.f199) (.n (some Tryz.f327) .e .e) (.n (some Tryz.f455) .e .e))) (.n (some Tryz.f103) (.n (some Tryz.f167) (.n (some Tryz.f295) .e .e) (.n (some Tryz.f423) .e .e)) (.n (some Tryz.f231) (.n (some Tryz.f359) .e .e) (.n (some Tryz.f487) .e .e)))) (.n (some Tryz.f55) (.n (some Tryz.f87) (.n (some Tryz.f151) (.n (some Tryz.f279) .e .e) (.n (some Tryz.f407) .e .e)) (.n (some Tryz.f215) (.n (some Tryz.f343) .e .e) (.n (some Tryz.f471) .e .e))) (.n (some Tryz.f119) (.n (some Tryz.f183) (.n (some Tryz.f311) .e .e) (.n (some Tryz.f439) .e .e)) (.n (some Tryz.f247) (.n (some Tryz.f375) .e .e) .e))))) (.n (some Tryz.f11) (.n (some Tryz.f19) (.n (some Tryz.f35) (.n (some Tryz.f67) (.n (some Tryz.f131) (.n (some Tryz.f259) .e .e) (.n (some Tryz.f387) .e .e)) (.n (some Tryz.f195) (.n (some Tryz.f323) .e .e) (.n (some Tryz.f451) .e .e))) (.n (some Tryz.f99) (.n (some Tryz.f163) (.n (some Tryz.f291) .e .e) (.n (some Tryz.f419) .e .e)) (.n (some Tryz.f227) (.n (some Tryz.f355) .e .e) (.n (some Tryz.f483) .e .e)))) (.n (some Tryz.f51) (.n (some Tryz.f83) (.n (some Tryz.f147) (.n (some Tryz.f275) .e .e) (.n (some Tryz.f403) .e .e)) (.n (some Tryz.f211) (.n (some Tryz.f339) .e .e) (.n (some Tryz.f467) .e .e))) (.n (some Tryz.f115) (.n (some Tryz.f179) (.n (some Tryz.f307) .e .e) (.n (some Tryz.f435) .e .e)) (.n (some Tryz.f243) (.n (some Tryz.f371) .e .e) .e)))) (.n (some Tryz.f27) (.n (some Tryz.f43) (.n (some Tryz.f75) (.n (some Tryz.f139) (.n (some Tryz.f267) .e .e) (.n (some Tryz.f395) .e .e)) (.n (some Tryz.f203) (.n (some Tryz.f331) .e .e) (.n (some Tryz.f459) .e .e))) (.n (some Tryz.f107) (.n (some Tryz.f171) (.n (some Tryz.f299) .e .e) (.n (some Tryz.f427) .e .e)) (.n (some Tryz.f235) (.n (some Tryz.f363) .e .e) (.n (some Tryz.f491) .e .e)))) (.n (some Tryz.f59) (.n (some Tryz.f91) (.n (some Tryz.f155) (.n (some Tryz.f283) .e .e) (.n (some Tryz.f411) .e .e)) (.n (some Tryz.f219) (.n (some Tryz.f347) .e .e) (.n (some Tryz.f475) .e .e))) (.n (some Tryz.f123) (.n (some Tryz.f187) (.n (some Tryz.f315) .e .e) (.n (some Tryz.f443) .e .e)) (.n (some Tryz.f251) (.n (some Tryz.f379) .e .e) .e)))))) (.n (some Tryz.f5) (.n (some Tryz.f9) (.n (some Tryz.f17) (.n (some Tryz.f33) (.n (some Tryz.f65) (.n (some Tryz.f129) (.n (some Tryz.f257) .e .e) (.n (some Tryz.f385) .e .e)) (.n (some Tryz.f193) (.n (some Tryz.f321) .e .e) (.n (some Tryz.f449) .e .e))) (.n (some Tryz.f97) (.n (some Tryz.f161) (.n (some Tryz.f289) .e .e) (.n (some Tryz.f417) .e .e)) (.n (some Tryz.f225) (.n (some Tryz.f353) .e .e) (.n (some Tryz.f481) .e .e)))) (.n (some Tryz.f49) (.n (some Tryz.f81) (.n (some Tryz.f145) (.n (some Tryz.f273) .e .e) (.n (some Tryz.f401) .e .e)) (.n (some Tryz.f209) (.n (some Tryz.f337) .e .e) (.n (some Tryz.f465) .e .e))) (.n (some Tryz.f113) (.n (some Tryz.f177) (.n (some Tryz.f305) .e .e) (.n (some Tryz.f433) .e .e)) (.n (some Tryz.f241) (.n (some Tryz.f369) .e .e) .e)))) (.n (some Tryz.f25) (.n (some Tryz.f41) (.n (some Tryz.f73) (.n (some Tryz.f137) (.n (some Tryz.f265) .e .e) (.n (some Tryz.f393) .e .e)) (.n (some Tryz.f201) (.n (some Tryz.f329) .e .e) (.n (some Tryz.f457) .e .e))) (.n (some Tryz.f105) (.n (some Tryz.f169) (.n (some Tryz.f297) .e .e) (.n (some Tryz.f425) .e .e)) (.n (some Tryz.f233) (.n (some Tryz.f361) .e .e) (.n (some Tryz.f489) .e .e)))) (.n (some Tryz.f57) (.n (some Tryz.f89) (.n (some Tryz.f153) (.n (some Tryz.f281) .e .e) (.n (some Tryz.f409) .e .e)) (.n (some Tryz.f217) (.n (some Tryz.f345) .e .e) (.n (some Tryz.f473) .e .e))) (.n (some Tryz.f121) (.n (some Tryz.f185) (.n (some Tryz.f313) .e .e) (.n (some Tryz.f441) .e .e)) (.n (some Tryz.f249) (.n (some Tryz.f377) .e .e) .e))))) (.n (some Tryz.f13) (.n (some Tryz.f21) (.n (some Tryz.f37) (.n (some Tryz.f69) (.n (some Tryz.f133) (.n (some Tryz.f261) .e .e) (.n (some Tryz.f389) .e .e)) (.n (some Tryz.f197) (.n (some Tryz.f325) .e .e) (.n (some Tryz.f453) .e .e))) (.n (some Tryz.f101) (.n (some Tryz.f165) (.n (some Tryz.f293) .e .e) (.n (some Tryz.f421) .e .e)) (.n (some Tryz.f229) (.n (some Tryz.f357) .e .e) (.n (some Tryz.f485) .e .e)))) (.n (some Tryz.f53) (.n (some Tryz.f85) (.n (some Tryz.f149) (.n (some Tryz.f277) .e .e) (.n (some Tryz.f405) .e .e)) (.n (some Tryz.f213) (.n (some Tryz.f341) .e .e) (.n (some Tryz.f469) .e .e))) (.n (some Tryz.f117) (.n (some Tryz.f181) (.n (some Tryz.f309) .e .e) .e) (.n (some Tryz.f245) (.n (some Tryz.f373) .e .e) .e)))) (.n (some Tryz.f29) (.n (some Tryz.f45) (.n (some Tryz.f77) (.n (some Tryz.f141) (.n (some Tryz.f269) .e .e) (.n (some Tryz.f397) .e .e)) (.n (some Tryz.f205) (.n (some Tryz.f333) .e .e) (.n (some Tryz.f461) .e .e))) (.n (some Tryz.f109) (.n (some Tryz.f173) (.n (some Tryz.f301) .e .e) (.n (some Tryz.f429) .e .e)) (.n (some Tryz.f237) (.n (some Tryz.f365) .e .e) .e))) (.n (some Tryz.f61) (.n (some Tryz.f93) (.n (some Tryz.f157) (.n (some Tryz.f285) .e .e) (.n (some Tryz.f413) .e .e)) (.n (some Tryz.f221) (.n (some Tryz.f349) .e .e) (.n (some Tryz.f477) .e .e))) (.n (some Tryz.f125) (.n (some Tryz.f189) (.n (some Tryz.f317) .e .e) (.n (some Tryz.f445) .e .e)) (.n (some Tryz.f253) (.n (some Tryz.f381) .e .e) .e))))))) (.n (some Tryz.f2) (.n (some Tryz.f4) (.n (some Tryz.f8) (.n (some Tryz.f16) (.n (some Tryz.f32) (.n (some Tryz.f64) (.n (some Tryz.f128) (.n (some Tryz.f256) .e .e) (.n (some Tryz.f384) .e .e)) (.n (some Tryz.f192) (.n (some Tryz.f320) .e .e) (.n (some Tryz.f448) .e .e))) (.n (some Tryz.f96) (.n (some Tryz.f160) (.n (some Tryz.f288) .e .e) (.n (some Tryz.f416) .e .e)) (.n (some Tryz.f224) (.n (some Tryz.f352) .e .e) (.n (some Tryz.f480) .e .e)))) (.n (some Tryz.f48) (.n (some Tryz.f80) (.n (some Tryz.f144) (.n (some Tryz.f272) .e .e) (.n (some Tryz.f400) .e .e)) (.n (some Tryz.f208) (.n (some Tryz.f336) .e .e) (.n (some Tryz.f464) .e .e))) (.n (some Tryz.f112) (.n (some Tryz.f176) (.n (some Tryz.f304) .e .e) (.n (some Tryz.f432) .e .e)) (.n (some Tryz.f240) (.n (some Tryz.f368) .e .e) .e)))) (.n (some Tryz.f24) (.n (some Tryz.f40) (.n (some Tryz.f72) (.n (some Tryz.f136) (.n (some Tryz.f264) .e .e) (.n (some Tryz.f392) .e .e)) (.n (some Tryz.f200) (.n (some Tryz.f328) .e .e) (.n (some Tryz.f456) .e .e))) (.n (some Tryz.f104) (.n (some Tryz.f168) (.n (some Tryz.f296) .e .e) (.n (some Tryz.f424) .e .e)) (.n (some Tryz.f232) (.n (some Tryz.f360) .e .e) (.n (some Tryz.f488) .e .e)))) (.n (some Tryz.f56) (.n (some Tryz.f88) (.n (some Tryz.f152) (.n (some Tryz.f280) .e .e) (.n (some Tryz.f408) .e .e)) (.n (some Tryz.f216) (.n (some Tryz.f344) .e .e) (.n (some Tryz.f472) .e .e))) (.n (some Tryz.f120) (.n (some Tryz.f184) (.n (some Tryz.f312) .e .e) (.n (some Tryz.f440) .e .e)) (.n (some Tryz.f248) (.n (some Tryz.f376) .e .e) .e))))) (.n (some Tryz.f12) (.n (some Tryz.f20) (.n (some Tryz.f36) (.n (some Tryz.f68) (.n (some Tryz.f132) (.n (some Tryz.f260) .e .e) (.n (some Tryz.f388) .e .e)) (.n (some Tryz.f196) (.n (some Tryz.f324) .e .e) (.n (some Tryz.f452) .e .e))) (.n (some Tryz.f100) (.n (some Tryz.f164) (.n (some Tryz.f292) .e .e) (.n (some Tryz.f420) .e .e)) (.n (some Tryz.f228) (.n (some Tryz.f356) .e .e) (.n (some Tryz.f484) .e .e)))) (.n (some Tryz.f52) (.n (some Tryz.f84) (.n (some Tryz.f148) (.n (some Tryz.f276) .e .e) (.n (some Tryz.f404) .e .e)) (.n (some Tryz.f212) (.n (some Tryz.f340) .e .e) (.n (some Tryz.f468) .e .e))) (.n (some Tryz.f116) (.n (some Tryz.f180) (.n (some Tryz.f308) .e .e) (.n (some Tryz.f436) .e .e)) (.n (some Tryz.f244) (.n (some Tryz.f372) .e .e) .e)))) (.n (some Tryz.f28) (.n (some Tryz.f44) (.n (some Tryz.f76) (.n (some Tryz.f140) (.n (some Tryz.f268) .e .e) (.n (some Tryz.f396) .e .e)) (.n (some Tryz.f204) (.n (some Tryz.f332) .e .e) (.n (some Tryz.f460) .e .e))) (.n (some Tryz.f108) (.n (some Tryz.f172) (.n (some Tryz.f300) .e .e) (.n (some Tryz.f428) .e .e)) (.n (some Tryz.f236) (.n (some Tryz.f364) .e .e) (.n (some Tryz.f492) .e .e)))) (.n (some Tryz.f60) (.n (some Tryz.f92) (.n (some Tryz.f156) (.n (some Tryz.f284) .e .e) (.n (some Tryz.f412) .e .e)) (.n (some Tryz.f220) (.n (some Tryz.f348) .e .e) (.n (some Tryz.f476) .e .e))) (.n (some Tryz.f124) (.n (some Tryz.f188) (.n (some Tryz.f316) .e .e) (.n (some Tryz.f444) .e .e)) (.n (some Tryz.f252) (.n (some Tryz.f380) .e .e) .e)))))) (.n (some Tryz.f6) (.n (some Tryz.f10) (.n (some Tryz.f18) (.n (some Tryz.f34) (.n (some Tryz.f66) (.n (some Tryz.f130) (.n (some Tryz.f258) .e .e) (.n (some Tryz.f386) .e .e)) (.n (some Tryz.f194) (.n (some Tryz.f322) .e .e) (.n (some Tryz.f450) .e .e))) (.n (some Tryz.f98) (.n (some Tryz.f162) (.n (some Tryz.f290) .e .e) (.n (some Tryz.f418) .e .e)) (.n (some Tryz.f226) (.n (some Tryz.f354) .e .e) (.n (some Tryz.f482) .e .e)))) (.n (some Tryz.f50) (.n (some Tryz.f82) (.n (some Tryz.f146) (.n (some Tryz.f274) .e .e) (.n (some Tryz.f402) .e .e)) (.n (some Tryz.f210) (.n (some Tryz.f338) .e .e) (.n (some Tryz.f466) .e .e))) (.n (some Tryz.f114) (.n (some Tryz.f178) (.n (some Tryz.f306) .e .e) (.n (some Tryz.f434) .e .e)) (.n (some Tryz.f242) (.n (some Tryz.f370) .e .e) .e)))) (.n (some Tryz.f26) (.n (some Tryz.f42) (.n (some Tryz.f74) (.n (some Tryz.f138) (.n (some Tryz.f266) .e .e) (.n (some Tryz.f394) .e .e)) (.n (some Tryz.f202) (.n (some Tryz.f330) .e .e) (.n (some Tryz.f458) .e .e))) (.n (some Tryz.f106) (.n (some Tryz.f170) (.n (some Tryz.f298) .e .e) (.n (some Tryz.f426) .e .e)) (.n (some Tryz.f234) (.n (some Tryz.f362) .e .e) (.n (some Tryz.f490) .e .e)))) (.n (some Tryz.f58) (.n (some Tryz.f90) (.n (some Tryz.f154) (.n (some Tryz.f282) .e .e) (.n (some Tryz.f410) .e .e)) (.n (some Tryz.f218) (.n (some Tryz.f346) .e .e) (.n (some Tryz.f474) .e .e))) (.n (some Tryz.f122) (.n (some Tryz.f186) (.n (some Tryz.f314) .e .e) (.n (some Tryz.f442) .e .e)) (.n (some Tryz.f250) (.n (some Tryz.f378) .e .e) .e))))) (.n (some Tryz.f14) (.n (some Tryz.f22) (.n (some Tryz.f38) (.n (some Tryz.f70) (.n (some Tryz.f134) (.n (some Tryz.f262) .e .e) (.n (some Tryz.f390) .e .e)) (.n (some Tryz.f198) (.n (some Tryz.f326) .e .e) (.n (some Tryz.f454) .e .e))) (.n (some Tryz.f102) (.n (some Tryz.f166) (.n (some Tryz.f294) .e .e) (.n (some Tryz.f422) .e .e)) (.n (some Tryz.f230) (.n (some Tryz.f358) .e .e) (.n (some Tryz.f486) .e .e)))) (.n (some Tryz.f54) (.n (some Tryz.f86) (.n (some Tryz.f150) (.n (some Tryz.f278) .e .e) (.n (some Tryz.f406) .e .e)) (.n (some Tryz.f214) (.n (some Tryz.f342) .e .e) (.n (some Tryz.f470) .e .e))) (.n (some Tryz.f118) (.n (some Tryz.f182) (.n (some Tryz.f310) .e .e) (.n (some Tryz.f438) .e .e)) (.n (some Tryz.f246) (.n (some Tryz.f374) .e .e) .e)))) (.n (some Tryz.f30) (.n (some Tryz.f46) (.n (some Tryz.f78) (.n (some Tryz.f142) (.n (some Tryz.f270) .e .e) (.n (some Tryz.f398) .e .e)) (.n (some Tryz.f206) (.n (some Tryz.f334) .e .e) (.n (some Tryz.f462) .e .e))) (.n (some Tryz.f110) (.n (some Tryz.f174) (.n (some Tryz.f302) .e .e) (.n (some Tryz.f430) .e .e)) (.n (some Tryz.f238) (.n (some Tryz.f366) .e .e) .e))) (.n (some Tryz.f62) (.n (some Tryz.f94) (.n (some Tryz.f158) (.n (some Tryz.f286) .e .e) (.n (some Tryz.f414) .e .e)) (.n (some Tryz.f222) (.n (some Tryz.f350) .e .e) (.n (some Tryz.f478) .e .e))) (.n (some Tryz.f126) (.n (some Tryz.f190) (.n (some Tryz.f318) .e .e) (.n (some Tryz.f446) .e .e)) (.n (some Tryz.f254) (.n (some Tryz.f382) .e .e) .e))))))))
theorem tyT_all : All (fun t i => Tryz.prog.info? t = some i) (fun k => k) tyT := (all_n Tryz.type0 (all_n Tryz.type1 (all_n Tryz.type3 (all_n Tryz.type7 (all_n Tryz.type15 (all_n Tryz.type31 (all_n Tryz.type63 (all_n Tryz.type127 (all_n Tryz.type255 (all_n Tryz.type511 all_e all_e) all_e) (all_n Tryz.type383 all_e all_e)) (all_n Tryz.type191 (all_n Tryz.type319 all_e all_e) (all_n Tryz.type447 all_e all_e))) (all_n Tryz.type95 (all_n Tryz.type159 (all_n Tryz.type287 (all_n Tryz.type543 all_e all_e) all_e) (all_n Tryz.type415 all_e all_e)) (all_n Tryz.type223 (all_n Tryz.type351 all_e all_e) (all_n Tryz.type479 all_e all_e)))) (all_n Tryz.type47 (all_n Tryz.type79 (all_n Tryz.type143 (all_n Tryz.type271 (all_n Tryz.type527 all_e all_e) all_e) (all_n Tryz.type399 all_e all_e)) (all_n Tryz.type207 (all_n Tryz.type335 all_e all_e) (all_n Tryz.type463 all_e all_e))) (all_n Tryz.type111 (all_n Tryz.type175 (all_n Tryz.type303 (all_n Tryz.type559 all_e all_e) all_e) (all_n Tryz.type431 all_e all_e)) (all_n Tryz.type239 (all_n Tryz.type367 all_e all_e) (all_n Tryz.type495 all_e all_e))))) (all_n Tryz.type23 (all_n Tryz.type39 (all_n Tryz.type71 (all_n Tryz.type135 (all_n Tryz.type263 (all_n Tryz.type519 all_e all_e) all_e) (all_n Tryz.type391 all_e all_e)) (all_n Tryz.type199 (all_n Tryz.type327 all_e all_e) (all_n Tryz.type455 all_e all_e))) (all_n Tryz.type103 (all_n Tryz.type167 (all_n Tryz.type295 (all_n Tryz.type551 all_e all_e) all_e) (all_n Tryz.type423 all_e all_e)) (all_n Tryz.type231 (all_n Tryz.type359 all_e all_e) (all_n Tryz.type487 all_e all_e)))) (all_n Tryz.type55 (all_n Tryz.type87 (all_n Tryz.type151 (all_n Tryz.type279 (all_n Tryz.type535 all_e all_e) all_e) (all_n Tryz.type407 all_e all_e)) (all_n Tryz.type215 (all_n Tryz.type343 all_e all_e) (all_n Tryz.type471 all_e all_e))) (all_n Tryz.type119 (all_n Tryz.type183 (all_n Tryz.type311 all_e all_e) (all_n Tryz.type439 all_e all_e)) (all_n Tryz.type247 (all_n Tryz.type375 all_e all_e) (all_n Tryz.type503 all_e all_e)))))) (all_n Tryz.type11 (all_n Tryz.type19 (all_n Tryz.type35 (all_n Tryz.type67 (all_n Tryz.type131 (all_n Tryz.type259 (all_n Tryz.type515 all_e all_e) all_e) (all_n Tryz.type387 all_e all_e)) (all_n Tryz.type195 (all_n Tryz.type323 all_e all_e) (all_n Tryz.type451 all_e all_e))) (all_n Tryz.type99 (all_n Tryz.type163 (all_n Tryz.type291 (all_n Tryz.type547 all_e all_e) all_e) (all_n Tryz.type419 all_e all_e)) (all_n Tryz.type227 (all_n Tryz.type355 all_e all_e) (all_n Tryz.type483 all_e all_e)))) (all_n Tryz.type51 (all_n Tryz.type83 (all_n Tryz.type147 (all_n Tryz.type275 (all_n Tryz.type531 all_e all_e) all_e) (all_n Tryz.type403 all_e all_e)) (all_n Tryz.type211 (all_n Tryz.type339 all_e all_e) (all_n Tryz.type467 all_e all_e))) (all_n Tryz.type115 (all_n Tryz.type179 (all_n Tryz.type307 (all_n Tryz.type563 all_e all_e) all_e) (all_n Tryz.type435 all_e all_e)) (all_n Tryz.type243 (all_n Tryz.type371 all_e all_e) (all_n Tryz.type499 all_e all_e))))) (all_n Tryz.type27 (all_n Tryz.type43 (all_n Tryz.type75 (all_n Tryz.type139 (all_n Tryz.type267 (all_n Tryz.type523 all_e all_e) all_e) (all_n Tryz.type395 all_e all_e)) (all_n Tryz.type203 (all_n Tryz.type331 all_e all_e) (all_n Tryz.type459 all_e all_e))) (all_n Tryz.type107 (all_n Tryz.type171 (all_n Tryz.type299 (all_n Tryz.type555 all_e all_e) all_e) (all_n Tryz.type427 all_e all_e)) (all_n Tryz.type235 (all_n Tryz.type363 all_e all_e) (all_n Tryz.type491 all_e all_e)))) (all_n Tryz.type59 (all_n Tryz.type91 (all_n Tryz.type155 (all_n Tryz.type283 (all_n Tryz.type539 all_e all_e) all_e) (all_n Tryz.type411 all_e all_e)) (all_n Tryz.type219 (all_n Tryz.type347 all_e all_e) (all_n Tryz.type475 all_e all_e))) (all_n Tryz.type123 (all_n Tryz.type187 (all_n Tryz.type315 all_e all_e) (all_n Tryz.type443 all_e all_e)) (all_n Tryz.type251 (all_n Tryz.type379 all_e all_e) (all_n Tryz.type507 all_e all_e))))))) (all_n Tryz.type5 (all_n Tryz.type9 (all_n Tryz.type17 (all_n Tryz.type33 (all_n Tryz.type65 (all_n Tryz.type129 (all_n Tryz.type257 (all_n Tryz.type513 all_e all_e) all_e) (all_n Tryz.type385 all_e all_e)) (all_n Tryz.type193 (all_n Tryz.type321 all_e all_e) (all_n Tryz.type449 all_e all_e))) (all_n Tryz.type97 (all_n Tryz.type161 (all_n Tryz.type289 (all_n Tryz.type545 all_e all_e) all_e) (all_n Tryz.type417 all_e all_e)) (all_n Tryz.type225 (all_n Tryz.type353 all_e all_e) (all_n Tryz.type481 all_e all_e)))) (all_n Tryz.type49 (all_n Tryz.type81 (all_n Tryz.type145 (all_n Tryz.type273 (all_n Tryz.type529 all_e all_e) all_e) (all_n Tryz.type401 all_e all_e)) (all_n Tryz.type209 (all_n Tryz.type337 all_e all_e) (all_n Tryz.type465 all_e all_e))) (all_n Tryz.type113 (all_n Tryz.type177 (all_n Tryz.type305 (all_n Tryz.type561 all_e all_e) all_e) (all_n Tryz.type433 all_e all_e)) (all_n Tryz.type241 (all_n Tryz.type369 all_e all_e) (all_n Tryz.type497 all_e all_e))))) (all_n Tryz.type25 (all_n Tryz.type41 (all_n Tryz.type73 (all_n Tryz.type137 (all_n Tryz.type265 (all_n Tryz.type521 all_e all_e) all_e) (all_n Tryz.type393 all_e all_e)) (all_n Tryz.type201 (all_n Tryz.type329 all_e all_e) (all_n Tryz.type457 all_e all_e))) (all_n Tryz.type105 (all_n Tryz.type169 (all_n Tryz.type297 (all_n Tryz.type553 all_e all_e) all_e) (all_n Tryz.type425 all_e all_e)) (all_n Tryz.type233 (all_n Tryz.type361 all_e all_e) (all_n Tryz.type489 all_e all_e)))) (all_n Tryz.type57 (all_n Tryz.type89 (all_n Tryz.type153 (all_n Tryz.type281 (all_n Tryz.type537 all_e all_e) all_e) (all_n Tryz.type409 all_e all_e)) (all_n Tryz.type217 (all_n Tryz.type345 all_e all_e) (all_n Tryz.type473 all_e all_e))) (all_n Tryz.type121 (all_n Tryz.type185 (all_n Tryz.type313 all_e all_e) (all_n Tryz.type441 all_e all_e)) (all_n Tryz.type249 (all_n Tryz.type377 all_e all_e) (all_n Tryz.type505 all_e all_e)))))) (all_n Tryz.type13 (all_n Tryz.type21 (all_n Tryz.type37 (all_n Tryz.type69 (all_n Tryz.type133 (all_n Tryz.type261 (all_n Tryz.type517 all_e all_e) all_e) (all_n Tryz.type389 all_e all_e)) (all_n Tryz.type197 (all_n Tryz.type325 all_e all_e) (all_n Tryz.type453 all_e all_e))) (all_n Tryz.type101 (all_n Tryz.type165 (all_n Tryz.type293 (all_n Tryz.type549 all_e all_e) all_e) (all_n Tryz.type421 all_e all_e)) (all_n Tryz.type229 (all_n Tryz.type357 all_e all_e) (all_n Tryz.type485 all_e all_e)))) (all_n Tryz.type53 (all_n Tryz.type85 (all_n Tryz.type149 (all_n Tryz.type277 (all_n Tryz.type533 all_e all_e) all_e) (all_n Tryz.type405 all_e all_e)) (all_n Tryz.type213 (all_n Tryz.type341 all_e all_e) (all_n Tryz.type469 all_e all_e))) (all_n Tryz.type117 (all_n Tryz.type181 (all_n Tryz.type309 all_e all_e) (all_n Tryz.type437 all_e all_e)) (all_n Tryz.type245 (all_n Tryz.type373 all_e all_e) (all_n Tryz.type501 all_e all_e))))) (all_n Tryz.type29 (all_n Tryz.type45 (all_n Tryz.type77 (all_n Tryz.type141 (all_n Tryz.type269 (all_n Tryz.type525 all_e all_e) all_e) (all_n Tryz.type397 all_e all_e)) (all_n Tryz.type205 (all_n Tryz.type333 all_e all_e) (all_n Tryz.type461 all_e all_e))) (all_n Tryz.type109 (all_n Tryz.type173 (all_n Tryz.type301 (all_n Tryz.type557 all_e all_e) all_e) (all_n Tryz.type429 all_e all_e)) (all_n Tryz.type237 (all_n Tryz.type365 all_e all_e) (all_n Tryz.type493 all_e all_e)))) (all_n Tryz.type61 (all_n Tryz.type93 (all_n Tryz.type157 (all_n Tryz.type285 (all_n Tryz.type541 all_e all_e) all_e) (all_n Tryz.type413 all_e all_e)) (all_n Tryz.type221 (all_n Tryz.type349 all_e all_e) (all_n Tryz.type477 all_e all_e))) (all_n Tryz.type125 (all_n Tryz.type189 (all_n Tryz.type317 all_e all_e) (all_n Tryz.type445 all_e all_e)) (all_n Tryz.type253 (all_n Tryz.type381 all_e all_e) (all_n Tryz.type509 all_e all_e)))))))) (all_n Tryz.type2 (all_n Tryz.type4 (all_n Tryz.type8 (all_n Tryz.type16 (all_n Tryz.type32 (all_n Tryz.type64 (all_n Tryz.type128 (all_n Tryz.type256 (all_n Tryz.type512 all_e all_e) all_e) (all_n Tryz.type384 all_e all_e)) (all_n Tryz.type192 (all_n Tryz.type320 all_e all_e) (all_n Tryz.type448 all_e all_e))) (all_n Tryz.type96 (all_n Tryz.type160 (all_n Tryz.type288 (all_n Tryz.type544 all_e all_e) all_e) (all_n Tryz.type416 all_e all_e)) (all_n Tryz.type224 (all_n Tryz.type352 all_e all_e) (all_n Tryz.type480 all_e all_e)))) (all_n Tryz.type48 (all_n Tryz.type80 (all_n Tryz.type144 (all_n Tryz.type272 (all_n Tryz.type528 all_e all_e) all_e) (all_n Tryz.type400 all_e all_e)) (all_n Tryz.type208 (all_n Tryz.type336 all_e all_e) (all_n Tryz.type464 all_e all_e))) (all_n Tryz.type112 (all_n Tryz.type176 (all_n Tryz.type304 (all_n Tryz.type560 all_e all_e) all_e) (all_n Tryz.type432 all_e all_e)) (all_n Tryz.type240 (all_n Tryz.type368 all_e all_e) (all_n Tryz.type496 all_e all_e))))) (all_n Tryz.type24 (all_n Tryz.type40 (all_n Tryz.type72 (all_n Tryz.type136 (all_n Tryz.type264 (all_n Tryz.type520 all_e all_e) all_e) (all_n Tryz.type392 all_e all_e)) (all_n Tryz.type200 (all_n Tryz.type328 all_e all_e) (all_n Tryz.type456 all_e all_e))) (all_n Tryz.type104 (all_n Tryz.type168 (all_n Tryz.type296 (all_n Tryz.type552 all_e all_e) all_e) (all_n Tryz.type424 all_e all_e)) (all_n Tryz.type232 (all_n Tryz.type360 all_e all_e) (all_n Tryz.type488 all_e all_e)))) (all_n Tryz.type56 (all_n Tryz.type88 (all_n Tryz.type152 (all_n Tryz.type280 (all_n Tryz.type536 all_e all_e) all_e) (all_n Tryz.type408 all_e all_e)) (all_n Tryz.type216 (all_n Tryz.type344 all_e all_e) (all_n Tryz.type472 all_e all_e))) (all_n Tryz.type120 (all_n Tryz.type184 (all_n Tryz.type312 all_e all_e) (all_n Tryz.type440 all_e all_e)) (all_n Tryz.type248 (all_n Tryz.type376 all_e all_e) (all_n Tryz.type504 all_e all_e)))))) (all_n Tryz.type12 (all_n Tryz.type20 (all_n Tryz.type36 (all_n Tryz.type68 (all_n Tryz.type132 (all_n Tryz.type260 (all_n Tryz.type516 all_e all_e) all_e) (all_n Tryz.type388 all_e all_e)) (all_n Tryz.type196 (all_n Tryz.type324 all_e all_e) (all_n Tryz.type452 all_e all_e))) (all_n Tryz.type100 (all_n Tryz.type164 (all_n Tryz.type292 (all_n Tryz.type548 all_e all_e) all_e) (all_n Tryz.type420 all_e all_e)) (all_n Tryz.type228 (all_n Tryz.type356 all_e all_e) (all_n Tryz.type484 all_e all_e)))) (all_n Tryz.type52 (all_n Tryz.type84 (all_n Tryz.type148 (all_n Tryz.type276 (all_n Tryz.type532 all_e all_e) all_e) (all_n Tryz.type404 all_e all_e)) (all_n Tryz.type212 (all_n Tryz.type340 all_e all_e) (all_n Tryz.type468 all_e all_e))) (all_n Tryz.type116 (all_n Tryz.type180 (all_n Tryz.type308 all_e all_e) (all_n Tryz.type436 all_e all_e)) (all_n Tryz.type244 (all_n Tryz.type372 all_e all_e) (all_n Tryz.type500 all_e all_e))))) (all_n Tryz.type28 (all_n Tryz.type44 (all_n Tryz.type76 (all_n Tryz.type140 (all_n Tryz.type268 (all_n Tryz.type524 all_e all_e) all_e) (all_n Tryz.type396 all_e all_e)) (all_n Tryz.type204 (all_n Tryz.type332 all_e all_e) (all_n Tryz.type460 all_e all_e))) (all_n Tryz.type108 (all_n Tryz.type172 (all_n Tryz.type300 (all_n Tryz.type556 all_e all_e) all_e) (all_n Tryz.type428 all_e all_e)) (all_n Tryz.type236 (all_n Tryz.type364 all_e all_e) (all_n Tryz.type492 all_e all_e)))) (all_n Tryz.type60 (all_n Tryz.type92 (all_n Tryz.type156 (all_n Tryz.type284 (all_n Tryz.type540 all_e all_e) all_e) (all_n Tryz.type412 all_e all_e)) (all_n Tryz.type220 (all_n Tryz.type348 all_e all_e) (all_n Tryz.type476 all_e all_e))) (all_n Tryz.type124 (all_n Tryz.type188 (all_n Tryz.type316 all_e all_e) (all_n Tryz.type444 all_e all_e)) (all_n Tryz.type252 (all_n Tryz.type380 all_e all_e) (all_n Tryz.type508 all_e all_e))))))) (all_n Tryz.type6 (all_n Tryz.type10 (all_n Tryz.type18 (all_n Tryz.type34 (all_n Tryz.type66 (all_n Tryz.type130 (all_n Tryz.type258 (all_n Tryz.type514 all_e all_e) all_e) (all_n Tryz.type386 all_e all_e)) (all_n Tryz.type194 (all_n Tryz.type322 all_e all_e) (all_n Tryz.type450 all_e all_e))) (all_n Tryz.type98 (all_n Tryz.type162 (all_n Tryz.type290 (all_n Tryz.type546 all_e all_e) all_e) (all_n Tryz.type418 all_e all_e)) (all_n Tryz.type226 (all_n Tryz.type354 all_e all_e) (all_n Tryz.type482 all_e all_e)))) (all_n Tryz.type50 (all_n Tryz.type82 (all_n Tryz.type146 (all_n Tryz.type274 (all_n Tryz.type530 all_e all_e) all_e) (all_n Tryz.type402 all_e all_e)) (all_n Tryz.type210 (all_n Tryz.type338 all_e all_e) (all_n Tryz.type466 all_e all_e))) (all_n Tryz.type114 (all_n Tryz.type178 (all_n Tryz.type306 (all_n Tryz.type562 all_e all_e) all_e) (all_n Tryz.type434 all_e all_e)) (all_n Tryz.type242 (all_n Tryz.type370 all_e all_e) (all_n Tryz.type498 all_e all_e))))) (all_n Tryz.type26 (all_n Tryz.type42 (all_n Tryz.type74 (all_n Tryz.type138 (all_n Tryz.type266 (all_n Tryz.type522 all_e all_e) all_e) (all_n Tryz.type394 all_e all_e)) (all_n Tryz.type202 (all_n Tryz.type330 all_e all_e) (all_n Tryz.type458 all_e all_e))) (all_n Tryz.type106 (all_n Tryz.type170 (all_n Tryz.type298 (all_n Tryz.type554 all_e all_e) all_e) (all_n Tryz.type426 all_e all_e)) (all_n Tryz.type234 (all_n Tryz.type362 all_e all_e) (all_n Tryz.type490 all_e all_e)))) (all_n Tryz.type58 (all_n Tryz.type90 (all_n Tryz.type154 (all_n Tryz.type282 (all_n Tryz.type538 all_e all_e) all_e) (all_n Tryz.type410 all_e all_e)) (all_n Tryz.type218 (all_n Tryz.type346 all_e all_e) (all_n Tryz.type474 all_e all_e))) (all_n Tryz.type122 (all_n Tryz.type186 (all_n Tryz.type314 all_e all_e) (all_n Tryz.type442 all_e all_e)) (all_n Tryz.type250 (all_n Tryz.type378 all_e all_e) (all_n Tryz.type506 all_e all_e)))))) (all_n Tryz.type14 (all_n Tryz.type22 (all_n Tryz.type38 (all_n Tryz.type70 (all_n Tryz.type134 (all_n Tryz.type262 (all_n Tryz.type518 all_e all_e) all_e) (all_n Tryz.type390 all_e all_e)) (all_n Tryz.type198 (all_n Tryz.type326 all_e all_e) (all_n Tryz.type454 all_e all_e))) (all_n Tryz.type102 (all_n Tryz.type166 (all_n Tryz.type294 (all_n Tryz.type550 all_e all_e) all_e) (all_n Tryz.type422 all_e all_e)) (all_n Tryz.type230 (all_n Tryz.type358 all_e all_e) (all_n Tryz.type486 all_e all_e)))) (all_n Tryz.type54 (all_n Tryz.type86 (all_n Tryz.type150 (all_n Tryz.type278 (all_n Tryz.type534 all_e all_e) all_e) (all_n Tryz.type406 all_e all_e)) (all_n Tryz.type214 (all_n Tryz.type342 all_e all_e) (all_n Tryz.type470 all_e all_e))) (all_n Tryz.type118 (all_n Tryz.type182 (all_n Tryz.type310 all_e all_e) (all_n Tryz.type438 all_e all_e)) (all_n Tryz.type246 (all_n Tryz.type374 all_e all_e) (all_n Tryz.type502 all_e all_e))))) (all_n Tryz.type30 (all_n Tryz.type46 (all_n Tryz.type78 (all_n Tryz.type142 (all_n Tryz.type270 (all_n Tryz.type526 all_e all_e) all_e) (all_n Tryz.type398 all_e all_e)) (all_n Tryz.type206 (all_n Tryz.type334 all_e all_e) (all_n Tryz.type462 all_e all_e))) (all_n Tryz.type110 (all_n Tryz.type174 (all_n Tryz.type302 (all_n Tryz.type558 all_e all_e) all_e) (all_n Tryz.type430 all_e all_e)) (all_n Tryz.type238 (all_n Tryz.type366 all_e all_e) (all_n Tryz.type494 all_e all_e)))) (all_n Tryz.type62 (all_n Tryz.type94 (all_n Tryz.type158 (all_n Tryz.type286 (all_n Tryz.type542 all_e all_e) all_e) (all_n Tryz.type414 all_e all_e)) (all_n Tryz.type222 (all_n Tryz.type350 all_e all_e) (all_n Tryz.type478 all_e all_e))) (all_n Tryz.type126 (all_n Tryz.type190 (all_n Tryz.type318 all_e all_e) (all_n Tryz.type446 all_e all_e)) (all_n Tryz.type254 (all_n Tryz.type382 all_e all_e) (all_n Tryz.type510 all_e all_e)))))))))
theorem fnT_all : All (fun f fn => Tryz.prog.funcs[f]? = some fn ∧ ∀ (args : Array Value) (w : World),(callFunc f args).run Tryz.prog w = .ok (.enter f args) w) (fun k => k) fnT := (all_o (all_o (all_n ⟨Tryz.func3,Tryz.call3⟩ (all_n ⟨Tryz.func7,Tryz.call7⟩ (all_n ⟨Tryz.func15,Tryz.call15⟩ (all_n ⟨Tryz.func31,Tryz.call31⟩ (all_n ⟨Tryz.func63,Tryz.call63⟩ (all_n ⟨Tryz.func127,Tryz.call127⟩ (all_n ⟨Tryz.func255,Tryz.call255⟩ all_e all_e) (all_n ⟨Tryz.func383,Tryz.call383⟩ all_e all_e)) (all_n ⟨Tryz.func191,Tryz.call191⟩ (all_n ⟨Tryz.func319,Tryz.call319⟩ all_e all_e) (all_n ⟨Tryz.func447,Tryz.call447⟩ all_e all_e))) (all_n ⟨Tryz.func95,Tryz.call95⟩ (all_n ⟨Tryz.func159,Tryz.call159⟩ (all_n ⟨Tryz.func287,Tryz.call287⟩ all_e all_e) (all_n ⟨Tryz.func415,Tryz.call415⟩ all_e all_e)) (all_n ⟨Tryz.func223,Tryz.call223⟩ (all_n ⟨Tryz.func351,Tryz.call351⟩ all_e all_e) (all_n ⟨Tryz.func479,Tryz.call479⟩ all_e all_e)))) (all_n ⟨Tryz.func47,Tryz.call47⟩ (all_n ⟨Tryz.func79,Tryz.call79⟩ (all_n ⟨Tryz.func143,Tryz.call143⟩ (all_n ⟨Tryz.func271,Tryz.call271⟩ all_e all_e) (all_n ⟨Tryz.func399,Tryz.call399⟩ all_e all_e)) (all_n ⟨Tryz.func207,Tryz.call207⟩ (all_n ⟨Tryz.func335,Tryz.call335⟩ all_e all_e) (all_n ⟨Tryz.func463,Tryz.call463⟩ all_e all_e))) (all_n ⟨Tryz.func111,Tryz.call111⟩ (all_n ⟨Tryz.func175,Tryz.call175⟩ (all_n ⟨Tryz.func303,Tryz.call303⟩ all_e all_e) (all_n ⟨Tryz.func431,Tryz.call431⟩ all_e all_e)) (all_n ⟨Tryz.func239,Tryz.call239⟩ (all_n ⟨Tryz.func367,Tryz.call367⟩ all_e all_e) all_e)))) (all_n ⟨Tryz.func23,Tryz.call23⟩ (all_n ⟨Tryz.func39,Tryz.call39⟩ (all_n ⟨Tryz.func71,Tryz.call71⟩ (all_n ⟨Tryz.func135,Tryz.call135⟩ (all_n ⟨Tryz.func263,Tryz.call263⟩ all_e all_e) (all_n ⟨Tryz.func391,Tryz.call391⟩ all_e all_e)) (all_n ⟨Tryz.func199,Tryz.call199⟩ (all_n ⟨Tryz.func327,Tryz.call327⟩ all_e all_e) (all_n ⟨Tryz.func455,Tryz.call455⟩ all_e all_e))) (all_n ⟨Tryz.func103,Tryz.call103⟩ (all_n ⟨Tryz.func167,Tryz.call167⟩ (all_n ⟨Tryz.func295,Tryz.call295⟩ all_e all_e) (all_n ⟨Tryz.func423,Tryz.call423⟩ all_e all_e)) (all_n ⟨Tryz.func231,Tryz.call231⟩ (all_n ⟨Tryz.func359,Tryz.call359⟩ all_e all_e) (all_n ⟨Tryz.func487,Tryz.call487⟩ all_e all_e)))) (all_n ⟨Tryz.func55,Tryz.call55⟩ (all_n ⟨Tryz.func87,Tryz.call87⟩ (all_n ⟨Tryz.func151,Tryz.call151⟩ (all_n ⟨Tryz.func279,Tryz.call279⟩ all_e all_e) (all_n ⟨Tryz.func407,Tryz.call407⟩ all_e all_e)) (all_n ⟨Tryz.func215,Tryz.call215⟩ (all_n ⟨Tryz.func343,Tryz.call343⟩ all_e all_e) (all_n ⟨Tryz.func471,Tryz.call471⟩ all_e all_e))) (all_n ⟨Tryz.func119,Tryz.call119⟩ (all_n ⟨Tryz.func183,Tryz.call183⟩ (all_n ⟨Tryz.func311,Tryz.call311⟩ all_e all_e) (all_n ⟨Tryz.func439,Tryz.call439⟩ all_e all_e)) (all_n ⟨Tryz.func247,Tryz.call247⟩ (all_n ⟨Tryz.func375,Tryz.call375⟩ all_e all_e) all_e))))) (all_n ⟨Tryz.func11,Tryz.call11⟩ (all_n ⟨Tryz.func19,Tryz.call19⟩ (all_n ⟨Tryz.func35,Tryz.call35⟩ (all_n ⟨Tryz.func67,Tryz.call67⟩ (all_n ⟨Tryz.func131,Tryz.call131⟩ (all_n ⟨Tryz.func259,Tryz.call259⟩ all_e all_e) (all_n ⟨Tryz.func387,Tryz.call387⟩ all_e all_e)) (all_n ⟨Tryz.func195,Tryz.call195⟩ (all_n ⟨Tryz.func323,Tryz.call323⟩ all_e all_e) (all_n ⟨Tryz.func451,Tryz.call451⟩ all_e all_e))) (all_n ⟨Tryz.func99,Tryz.call99⟩ (all_n ⟨Tryz.func163,Tryz.call163⟩ (all_n ⟨Tryz.func291,Tryz.call291⟩ all_e all_e) (all_n ⟨Tryz.func419,Tryz.call419⟩ all_e all_e)) (all_n ⟨Tryz.func227,Tryz.call227⟩ (all_n ⟨Tryz.func355,Tryz.call355⟩ all_e all_e) (all_n ⟨Tryz.func483,Tryz.call483⟩ all_e all_e)))) (all_n ⟨Tryz.func51,Tryz.call51⟩ (all_n ⟨Tryz.func83,Tryz.call83⟩ (all_n ⟨Tryz.func147,Tryz.call147⟩ (all_n ⟨Tryz.func275,Tryz.call275⟩ all_e all_e) (all_n ⟨Tryz.func403,Tryz.call403⟩ all_e all_e)) (all_n ⟨Tryz.func211,Tryz.call211⟩ (all_n ⟨Tryz.func339,Tryz.call339⟩ all_e all_e) (all_n ⟨Tryz.func467,Tryz.call467⟩ all_e all_e))) (all_n ⟨Tryz.func115,Tryz.call115⟩ (all_n ⟨Tryz.func179,Tryz.call179⟩ (all_n ⟨Tryz.func307,Tryz.call307⟩ all_e all_e) (all_n ⟨Tryz.func435,Tryz.call435⟩ all_e all_e)) (all_n ⟨Tryz.func243,Tryz.call243⟩ (all_n ⟨Tryz.func371,Tryz.call371⟩ all_e all_e) all_e)))) (all_n ⟨Tryz.func27,Tryz.call27⟩ (all_n ⟨Tryz.func43,Tryz.call43⟩ (all_n ⟨Tryz.func75,Tryz.call75⟩ (all_n ⟨Tryz.func139,Tryz.call139⟩ (all_n ⟨Tryz.func267,Tryz.call267⟩ all_e all_e) (all_n ⟨Tryz.func395,Tryz.call395⟩ all_e all_e)) (all_n ⟨Tryz.func203,Tryz.call203⟩ (all_n ⟨Tryz.func331,Tryz.call331⟩ all_e all_e) (all_n ⟨Tryz.func459,Tryz.call459⟩ all_e all_e))) (all_n ⟨Tryz.func107,Tryz.call107⟩ (all_n ⟨Tryz.func171,Tryz.call171⟩ (all_n ⟨Tryz.func299,Tryz.call299⟩ all_e all_e) (all_n ⟨Tryz.func427,Tryz.call427⟩ all_e all_e)) (all_n ⟨Tryz.func235,Tryz.call235⟩ (all_n ⟨Tryz.func363,Tryz.call363⟩ all_e all_e) (all_n ⟨Tryz.func491,Tryz.call491⟩ all_e all_e)))) (all_n ⟨Tryz.func59,Tryz.call59⟩ (all_n ⟨Tryz.func91,Tryz.call91⟩ (all_n ⟨Tryz.func155,Tryz.call155⟩ (all_n ⟨Tryz.func283,Tryz.call283⟩ all_e all_e) (all_n ⟨Tryz.func411,Tryz.call411⟩ all_e all_e)) (all_n ⟨Tryz.func219,Tryz.call219⟩ (all_n ⟨Tryz.func347,Tryz.call347⟩ all_e all_e) (all_n ⟨Tryz.func475,Tryz.call475⟩ all_e all_e))) (all_n ⟨Tryz.func123,Tryz.call123⟩ (all_n ⟨Tryz.func187,Tryz.call187⟩ (all_n ⟨Tryz.func315,Tryz.call315⟩ all_e all_e) (all_n ⟨Tryz.func443,Tryz.call443⟩ all_e all_e)) (all_n ⟨Tryz.func251,Tryz.call251⟩ (all_n ⟨Tryz.func379,Tryz.call379⟩ all_e all_e) all_e)))))) (all_n ⟨Tryz.func5,Tryz.call5⟩ (all_n ⟨Tryz.func9,Tryz.call9⟩ (all_n ⟨Tryz.func17,Tryz.call17⟩ (all_n ⟨Tryz.func33,Tryz.call33⟩ (all_n ⟨Tryz.func65,Tryz.call65⟩ (all_n ⟨Tryz.func129,Tryz.call129⟩ (all_n ⟨Tryz.func257,Tryz.call257⟩ all_e all_e) (all_n ⟨Tryz.func385,Tryz.call385⟩ all_e all_e)) (all_n ⟨Tryz.func193,Tryz.call193⟩ (all_n ⟨Tryz.func321,Tryz.call321⟩ all_e all_e) (all_n ⟨Tryz.func449,Tryz.call449⟩ all_e all_e))) (all_n ⟨Tryz.func97,Tryz.call97⟩ (all_n ⟨Tryz.func161,Tryz.call161⟩ (all_n ⟨Tryz.func289,Tryz.call289⟩ all_e all_e) (all_n ⟨Tryz.func417,Tryz.call417⟩ all_e all_e)) (all_n ⟨Tryz.func225,Tryz.call225⟩ (all_n ⟨Tryz.func353,Tryz.call353⟩ all_e all_e) (all_n ⟨Tryz.func481,Tryz.call481⟩ all_e all_e)))) (all_n ⟨Tryz.func49,Tryz.call49⟩ (all_n ⟨Tryz.func81,Tryz.call81⟩ (all_n ⟨Tryz.func145,Tryz.call145⟩ (all_n ⟨Tryz.func273,Tryz.call273⟩ all_e all_e) (all_n ⟨Tryz.func401,Tryz.call401⟩ all_e all_e)) (all_n ⟨Tryz.func209,Tryz.call209⟩ (all_n ⟨Tryz.func337,Tryz.call337⟩ all_e all_e) (all_n ⟨Tryz.func465,Tryz.call465⟩ all_e all_e))) (all_n ⟨Tryz.func113,Tryz.call113⟩ (all_n ⟨Tryz.func177,Tryz.call177⟩ (all_n ⟨Tryz.func305,Tryz.call305⟩ all_e all_e) (all_n ⟨Tryz.func433,Tryz.call433⟩ all_e all_e)) (all_n ⟨Tryz.func241,Tryz.call241⟩ (all_n ⟨Tryz.func369,Tryz.call369⟩ all_e all_e) all_e)))) (all_n ⟨Tryz.func25,Tryz.call25⟩ (all_n ⟨Tryz.func41,Tryz.call41⟩ (all_n ⟨Tryz.func73,Tryz.call73⟩ (all_n ⟨Tryz.func137,Tryz.call137⟩ (all_n ⟨Tryz.func265,Tryz.call265⟩ all_e all_e) (all_n ⟨Tryz.func393,Tryz.call393⟩ all_e all_e)) (all_n ⟨Tryz.func201,Tryz.call201⟩ (all_n ⟨Tryz.func329,Tryz.call329⟩ all_e all_e) (all_n ⟨Tryz.func457,Tryz.call457⟩ all_e all_e))) (all_n ⟨Tryz.func105,Tryz.call105⟩ (all_n ⟨Tryz.func169,Tryz.call169⟩ (all_n ⟨Tryz.func297,Tryz.call297⟩ all_e all_e) (all_n ⟨Tryz.func425,Tryz.call425⟩ all_e all_e)) (all_n ⟨Tryz.func233,Tryz.call233⟩ (all_n ⟨Tryz.func361,Tryz.call361⟩ all_e all_e) (all_n ⟨Tryz.func489,Tryz.call489⟩ all_e all_e)))) (all_n ⟨Tryz.func57,Tryz.call57⟩ (all_n ⟨Tryz.func89,Tryz.call89⟩ (all_n ⟨Tryz.func153,Tryz.call153⟩ (all_n ⟨Tryz.func281,Tryz.call281⟩ all_e all_e) (all_n ⟨Tryz.func409,Tryz.call409⟩ all_e all_e)) (all_n ⟨Tryz.func217,Tryz.call217⟩ (all_n ⟨Tryz.func345,Tryz.call345⟩ all_e all_e) (all_n ⟨Tryz.func473,Tryz.call473⟩ all_e all_e))) (all_n ⟨Tryz.func121,Tryz.call121⟩ (all_n ⟨Tryz.func185,Tryz.call185⟩ (all_n ⟨Tryz.func313,Tryz.call313⟩ all_e all_e) (all_n ⟨Tryz.func441,Tryz.call441⟩ all_e all_e)) (all_n ⟨Tryz.func249,Tryz.call249⟩ (all_n ⟨Tryz.func377,Tryz.call377⟩ all_e all_e) all_e))))) (all_n ⟨Tryz.func13,Tryz.call13⟩ (all_n ⟨Tryz.func21,Tryz.call21⟩ (all_n ⟨Tryz.func37,Tryz.call37⟩ (all_n ⟨Tryz.func69,Tryz.call69⟩ (all_n ⟨Tryz.func133,Tryz.call133⟩ (all_n ⟨Tryz.func261,Tryz.call261⟩ all_e all_e) (all_n ⟨Tryz.func389,Tryz.call389⟩ all_e all_e)) (all_n ⟨Tryz.func197,Tryz.call197⟩ (all_n ⟨Tryz.func325,Tryz.call325⟩ all_e all_e) (all_n ⟨Tryz.func453,Tryz.call453⟩ all_e all_e))) (all_n ⟨Tryz.func101,Tryz.call101⟩ (all_n ⟨Tryz.func165,Tryz.call165⟩ (all_n ⟨Tryz.func293,Tryz.call293⟩ all_e all_e) (all_n ⟨Tryz.func421,Tryz.call421⟩ all_e all_e)) (all_n ⟨Tryz.func229,Tryz.call229⟩ (all_n ⟨Tryz.func357,Tryz.call357⟩ all_e all_e) (all_n ⟨Tryz.func485,Tryz.call485⟩ all_e all_e)))) (all_n ⟨Tryz.func53,Tryz.call53⟩ (all_n ⟨Tryz.func85,Tryz.call85⟩ (all_n ⟨Tryz.func149,Tryz.call149⟩ (all_n ⟨Tryz.func277,Tryz.call277⟩ all_e all_e) (all_n ⟨Tryz.func405,Tryz.call405⟩ all_e all_e)) (all_n ⟨Tryz.func213,Tryz.call213⟩ (all_n ⟨Tryz.func341,Tryz.call341⟩ all_e all_e) (all_n ⟨Tryz.func469,Tryz.call469⟩ all_e all_e))) (all_n ⟨Tryz.func117,Tryz.call117⟩ (all_n ⟨Tryz.func181,Tryz.call181⟩ (all_n ⟨Tryz.func309,Tryz.call309⟩ all_e all_e) all_e) (all_n ⟨Tryz.func245,Tryz.call245⟩ (all_n ⟨Tryz.func373,Tryz.call373⟩ all_e all_e) all_e)))) (all_n ⟨Tryz.func29,Tryz.call29⟩ (all_n ⟨Tryz.func45,Tryz.call45⟩ (all_n ⟨Tryz.func77,Tryz.call77⟩ (all_n ⟨Tryz.func141,Tryz.call141⟩ (all_n ⟨Tryz.func269,Tryz.call269⟩ all_e all_e) (all_n ⟨Tryz.func397,Tryz.call397⟩ all_e all_e)) (all_n ⟨Tryz.func205,Tryz.call205⟩ (all_n ⟨Tryz.func333,Tryz.call333⟩ all_e all_e) (all_n ⟨Tryz.func461,Tryz.call461⟩ all_e all_e))) (all_n ⟨Tryz.func109,Tryz.call109⟩ (all_n ⟨Tryz.func173,Tryz.call173⟩ (all_n ⟨Tryz.func301,Tryz.call301⟩ all_e all_e) (all_n ⟨Tryz.func429,Tryz.call429⟩ all_e all_e)) (all_n ⟨Tryz.func237,Tryz.call237⟩ (all_n ⟨Tryz.func365,Tryz.call365⟩ all_e all_e) all_e))) (all_n ⟨Tryz.func61,Tryz.call61⟩ (all_n ⟨Tryz.func93,Tryz.call93⟩ (all_n ⟨Tryz.func157,Tryz.call157⟩ (all_n ⟨Tryz.func285,Tryz.call285⟩ all_e all_e) (all_n ⟨Tryz.func413,Tryz.call413⟩ all_e all_e)) (all_n ⟨Tryz.func221,Tryz.call221⟩ (all_n ⟨Tryz.func349,Tryz.call349⟩ all_e all_e) (all_n ⟨Tryz.func477,Tryz.call477⟩ all_e all_e))) (all_n ⟨Tryz.func125,Tryz.call125⟩ (all_n ⟨Tryz.func189,Tryz.call189⟩ (all_n ⟨Tryz.func317,Tryz.call317⟩ all_e all_e) (all_n ⟨Tryz.func445,Tryz.call445⟩ all_e all_e)) (all_n ⟨Tryz.func253,Tryz.call253⟩ (all_n ⟨Tryz.func381,Tryz.call381⟩ all_e all_e) all_e))))))) (all_n ⟨Tryz.func2,Tryz.call2⟩ (all_n ⟨Tryz.func4,Tryz.call4⟩ (all_n ⟨Tryz.func8,Tryz.call8⟩ (all_n ⟨Tryz.func16,Tryz.call16⟩ (all_n ⟨Tryz.func32,Tryz.call32⟩ (all_n ⟨Tryz.func64,Tryz.call64⟩ (all_n ⟨Tryz.func128,Tryz.call128⟩ (all_n ⟨Tryz.func256,Tryz.call256⟩ all_e all_e) (all_n ⟨Tryz.func384,Tryz.call384⟩ all_e all_e)) (all_n ⟨Tryz.func192,Tryz.call192⟩ (all_n ⟨Tryz.func320,Tryz.call320⟩ all_e all_e) (all_n ⟨Tryz.func448,Tryz.call448⟩ all_e all_e))) (all_n ⟨Tryz.func96,Tryz.call96⟩ (all_n ⟨Tryz.func160,Tryz.call160⟩ (all_n ⟨Tryz.func288,Tryz.call288⟩ all_e all_e) (all_n ⟨Tryz.func416,Tryz.call416⟩ all_e all_e)) (all_n ⟨Tryz.func224,Tryz.call224⟩ (all_n ⟨Tryz.func352,Tryz.call352⟩ all_e all_e) (all_n ⟨Tryz.func480,Tryz.call480⟩ all_e all_e)))) (all_n ⟨Tryz.func48,Tryz.call48⟩ (all_n ⟨Tryz.func80,Tryz.call80⟩ (all_n ⟨Tryz.func144,Tryz.call144⟩ (all_n ⟨Tryz.func272,Tryz.call272⟩ all_e all_e) (all_n ⟨Tryz.func400,Tryz.call400⟩ all_e all_e)) (all_n ⟨Tryz.func208,Tryz.call208⟩ (all_n ⟨Tryz.func336,Tryz.call336⟩ all_e all_e) (all_n ⟨Tryz.func464,Tryz.call464⟩ all_e all_e))) (all_n ⟨Tryz.func112,Tryz.call112⟩ (all_n ⟨Tryz.func176,Tryz.call176⟩ (all_n ⟨Tryz.func304,Tryz.call304⟩ all_e all_e) (all_n ⟨Tryz.func432,Tryz.call432⟩ all_e all_e)) (all_n ⟨Tryz.func240,Tryz.call240⟩ (all_n ⟨Tryz.func368,Tryz.call368⟩ all_e all_e) all_e)))) (all_n ⟨Tryz.func24,Tryz.call24⟩ (all_n ⟨Tryz.func40,Tryz.call40⟩ (all_n ⟨Tryz.func72,Tryz.call72⟩ (all_n ⟨Tryz.func136,Tryz.call136⟩ (all_n ⟨Tryz.func264,Tryz.call264⟩ all_e all_e) (all_n ⟨Tryz.func392,Tryz.call392⟩ all_e all_e)) (all_n ⟨Tryz.func200,Tryz.call200⟩ (all_n ⟨Tryz.func328,Tryz.call328⟩ all_e all_e) (all_n ⟨Tryz.func456,Tryz.call456⟩ all_e all_e))) (all_n ⟨Tryz.func104,Tryz.call104⟩ (all_n ⟨Tryz.func168,Tryz.call168⟩ (all_n ⟨Tryz.func296,Tryz.call296⟩ all_e all_e) (all_n ⟨Tryz.func424,Tryz.call424⟩ all_e all_e)) (all_n ⟨Tryz.func232,Tryz.call232⟩ (all_n ⟨Tryz.func360,Tryz.call360⟩ all_e all_e) (all_n ⟨Tryz.func488,Tryz.call488⟩ all_e all_e)))) (all_n ⟨Tryz.func56,Tryz.call56⟩ (all_n ⟨Tryz.func88,Tryz.call88⟩ (all_n ⟨Tryz.func152,Tryz.call152⟩ (all_n ⟨Tryz.func280,Tryz.call280⟩ all_e all_e) (all_n ⟨Tryz.func408,Tryz.call408⟩ all_e all_e)) (all_n ⟨Tryz.func216,Tryz.call216⟩ (all_n ⟨Tryz.func344,Tryz.call344⟩ all_e all_e) (all_n ⟨Tryz.func472,Tryz.call472⟩ all_e all_e))) (all_n ⟨Tryz.func120,Tryz.call120⟩ (all_n ⟨Tryz.func184,Tryz.call184⟩ (all_n ⟨Tryz.func312,Tryz.call312⟩ all_e all_e) (all_n ⟨Tryz.func440,Tryz.call440⟩ all_e all_e)) (all_n ⟨Tryz.func248,Tryz.call248⟩ (all_n ⟨Tryz.func376,Tryz.call376⟩ all_e all_e) all_e))))) (all_n ⟨Tryz.func12,Tryz.call12⟩ (all_n ⟨Tryz.func20,Tryz.call20⟩ (all_n ⟨Tryz.func36,Tryz.call36⟩ (all_n ⟨Tryz.func68,Tryz.call68⟩ (all_n ⟨Tryz.func132,Tryz.call132⟩ (all_n ⟨Tryz.func260,Tryz.call260⟩ all_e all_e) (all_n ⟨Tryz.func388,Tryz.call388⟩ all_e all_e)) (all_n ⟨Tryz.func196,Tryz.call196⟩ (all_n ⟨Tryz.func324,Tryz.call324⟩ all_e all_e) (all_n ⟨Tryz.func452,Tryz.call452⟩ all_e all_e))) (all_n ⟨Tryz.func100,Tryz.call100⟩ (all_n ⟨Tryz.func164,Tryz.call164⟩ (all_n ⟨Tryz.func292,Tryz.call292⟩ all_e all_e) (all_n ⟨Tryz.func420,Tryz.call420⟩ all_e all_e)) (all_n ⟨Tryz.func228,Tryz.call228⟩ (all_n ⟨Tryz.func356,Tryz.call356⟩ all_e all_e) (all_n ⟨Tryz.func484,Tryz.call484⟩ all_e all_e)))) (all_n ⟨Tryz.func52,Tryz.call52⟩ (all_n ⟨Tryz.func84,Tryz.call84⟩ (all_n ⟨Tryz.func148,Tryz.call148⟩ (all_n ⟨Tryz.func276,Tryz.call276⟩ all_e all_e) (all_n ⟨Tryz.func404,Tryz.call404⟩ all_e all_e)) (all_n ⟨Tryz.func212,Tryz.call212⟩ (all_n ⟨Tryz.func340,Tryz.call340⟩ all_e all_e) (all_n ⟨Tryz.func468,Tryz.call468⟩ all_e all_e))) (all_n ⟨Tryz.func116,Tryz.call116⟩ (all_n ⟨Tryz.func180,Tryz.call180⟩ (all_n ⟨Tryz.func308,Tryz.call308⟩ all_e all_e) (all_n ⟨Tryz.func436,Tryz.call436⟩ all_e all_e)) (all_n ⟨Tryz.func244,Tryz.call244⟩ (all_n ⟨Tryz.func372,Tryz.call372⟩ all_e all_e) all_e)))) (all_n ⟨Tryz.func28,Tryz.call28⟩ (all_n ⟨Tryz.func44,Tryz.call44⟩ (all_n ⟨Tryz.func76,Tryz.call76⟩ (all_n ⟨Tryz.func140,Tryz.call140⟩ (all_n ⟨Tryz.func268,Tryz.call268⟩ all_e all_e) (all_n ⟨Tryz.func396,Tryz.call396⟩ all_e all_e)) (all_n ⟨Tryz.func204,Tryz.call204⟩ (all_n ⟨Tryz.func332,Tryz.call332⟩ all_e all_e) (all_n ⟨Tryz.func460,Tryz.call460⟩ all_e all_e))) (all_n ⟨Tryz.func108,Tryz.call108⟩ (all_n ⟨Tryz.func172,Tryz.call172⟩ (all_n ⟨Tryz.func300,Tryz.call300⟩ all_e all_e) (all_n ⟨Tryz.func428,Tryz.call428⟩ all_e all_e)) (all_n ⟨Tryz.func236,Tryz.call236⟩ (all_n ⟨Tryz.func364,Tryz.call364⟩ all_e all_e) (all_n ⟨Tryz.func492,Tryz.call492⟩ all_e all_e)))) (all_n ⟨Tryz.func60,Tryz.call60⟩ (all_n ⟨Tryz.func92,Tryz.call92⟩ (all_n ⟨Tryz.func156,Tryz.call156⟩ (all_n ⟨Tryz.func284,Tryz.call284⟩ all_e all_e) (all_n ⟨Tryz.func412,Tryz.call412⟩ all_e all_e)) (all_n ⟨Tryz.func220,Tryz.call220⟩ (all_n ⟨Tryz.func348,Tryz.call348⟩ all_e all_e) (all_n ⟨Tryz.func476,Tryz.call476⟩ all_e all_e))) (all_n ⟨Tryz.func124,Tryz.call124⟩ (all_n ⟨Tryz.func188,Tryz.call188⟩ (all_n ⟨Tryz.func316,Tryz.call316⟩ all_e all_e) (all_n ⟨Tryz.func444,Tryz.call444⟩ all_e all_e)) (all_n ⟨Tryz.func252,Tryz.call252⟩ (all_n ⟨Tryz.func380,Tryz.call380⟩ all_e all_e) all_e)))))) (all_n ⟨Tryz.func6,Tryz.call6⟩ (all_n ⟨Tryz.func10,Tryz.call10⟩ (all_n ⟨Tryz.func18,Tryz.call18⟩ (all_n ⟨Tryz.func34,Tryz.call34⟩ (all_n ⟨Tryz.func66,Tryz.call66⟩ (all_n ⟨Tryz.func130,Tryz.call130⟩ (all_n ⟨Tryz.func258,Tryz.call258⟩ all_e all_e) (all_n ⟨Tryz.func386,Tryz.call386⟩ all_e all_e)) (all_n ⟨Tryz.func194,Tryz.call194⟩ (all_n ⟨Tryz.func322,Tryz.call322⟩ all_e all_e) (all_n ⟨Tryz.func450,Tryz.call450⟩ all_e all_e))) (all_n ⟨Tryz.func98,Tryz.call98⟩ (all_n ⟨Tryz.func162,Tryz.call162⟩ (all_n ⟨Tryz.func290,Tryz.call290⟩ all_e all_e) (all_n ⟨Tryz.func418,Tryz.call418⟩ all_e all_e)) (all_n ⟨Tryz.func226,Tryz.call226⟩ (all_n ⟨Tryz.func354,Tryz.call354⟩ all_e all_e) (all_n ⟨Tryz.func482,Tryz.call482⟩ all_e all_e)))) (all_n ⟨Tryz.func50,Tryz.call50⟩ (all_n ⟨Tryz.func82,Tryz.call82⟩ (all_n ⟨Tryz.func146,Tryz.call146⟩ (all_n ⟨Tryz.func274,Tryz.call274⟩ all_e all_e) (all_n ⟨Tryz.func402,Tryz.call402⟩ all_e all_e)) (all_n ⟨Tryz.func210,Tryz.call210⟩ (all_n ⟨Tryz.func338,Tryz.call338⟩ all_e all_e) (all_n ⟨Tryz.func466,Tryz.call466⟩ all_e all_e))) (all_n ⟨Tryz.func114,Tryz.call114⟩ (all_n ⟨Tryz.func178,Tryz.call178⟩ (all_n ⟨Tryz.func306,Tryz.call306⟩ all_e all_e) (all_n ⟨Tryz.func434,Tryz.call434⟩ all_e all_e)) (all_n ⟨Tryz.func242,Tryz.call242⟩ (all_n ⟨Tryz.func370,Tryz.call370⟩ all_e all_e) all_e)))) (all_n ⟨Tryz.func26,Tryz.call26⟩ (all_n ⟨Tryz.func42,Tryz.call42⟩ (all_n ⟨Tryz.func74,Tryz.call74⟩ (all_n ⟨Tryz.func138,Tryz.call138⟩ (all_n ⟨Tryz.func266,Tryz.call266⟩ all_e all_e) (all_n ⟨Tryz.func394,Tryz.call394⟩ all_e all_e)) (all_n ⟨Tryz.func202,Tryz.call202⟩ (all_n ⟨Tryz.func330,Tryz.call330⟩ all_e all_e) (all_n ⟨Tryz.func458,Tryz.call458⟩ all_e all_e))) (all_n ⟨Tryz.func106,Tryz.call106⟩ (all_n ⟨Tryz.func170,Tryz.call170⟩ (all_n ⟨Tryz.func298,Tryz.call298⟩ all_e all_e) (all_n ⟨Tryz.func426,Tryz.call426⟩ all_e all_e)) (all_n ⟨Tryz.func234,Tryz.call234⟩ (all_n ⟨Tryz.func362,Tryz.call362⟩ all_e all_e) (all_n ⟨Tryz.func490,Tryz.call490⟩ all_e all_e)))) (all_n ⟨Tryz.func58,Tryz.call58⟩ (all_n ⟨Tryz.func90,Tryz.call90⟩ (all_n ⟨Tryz.func154,Tryz.call154⟩ (all_n ⟨Tryz.func282,Tryz.call282⟩ all_e all_e) (all_n ⟨Tryz.func410,Tryz.call410⟩ all_e all_e)) (all_n ⟨Tryz.func218,Tryz.call218⟩ (all_n ⟨Tryz.func346,Tryz.call346⟩ all_e all_e) (all_n ⟨Tryz.func474,Tryz.call474⟩ all_e all_e))) (all_n ⟨Tryz.func122,Tryz.call122⟩ (all_n ⟨Tryz.func186,Tryz.call186⟩ (all_n ⟨Tryz.func314,Tryz.call314⟩ all_e all_e) (all_n ⟨Tryz.func442,Tryz.call442⟩ all_e all_e)) (all_n ⟨Tryz.func250,Tryz.call250⟩ (all_n ⟨Tryz.func378,Tryz.call378⟩ all_e all_e) all_e))))) (all_n ⟨Tryz.func14,Tryz.call14⟩ (all_n ⟨Tryz.func22,Tryz.call22⟩ (all_n ⟨Tryz.func38,Tryz.call38⟩ (all_n ⟨Tryz.func70,Tryz.call70⟩ (all_n ⟨Tryz.func134,Tryz.call134⟩ (all_n ⟨Tryz.func262,Tryz.call262⟩ all_e all_e) (all_n ⟨Tryz.func390,Tryz.call390⟩ all_e all_e)) (all_n ⟨Tryz.func198,Tryz.call198⟩ (all_n ⟨Tryz.func326,Tryz.call326⟩ all_e all_e) (all_n ⟨Tryz.func454,Tryz.call454⟩ all_e all_e))) (all_n ⟨Tryz.func102,Tryz.call102⟩ (all_n ⟨Tryz.func166,Tryz.call166⟩ (all_n ⟨Tryz.func294,Tryz.call294⟩ all_e all_e) (all_n ⟨Tryz.func422,Tryz.call422⟩ all_e all_e)) (all_n ⟨Tryz.func230,Tryz.call230⟩ (all_n ⟨Tryz.func358,Tryz.call358⟩ all_e all_e) (all_n ⟨Tryz.func486,Tryz.call486⟩ all_e all_e)))) (all_n ⟨Tryz.func54,Tryz.call54⟩ (all_n ⟨Tryz.func86,Tryz.call86⟩ (all_n ⟨Tryz.func150,Tryz.call150⟩ (all_n ⟨Tryz.func278,Tryz.call278⟩ all_e all_e) (all_n ⟨Tryz.func406,Tryz.call406⟩ all_e all_e)) (all_n ⟨Tryz.func214,Tryz.call214⟩ (all_n ⟨Tryz.func342,Tryz.call342⟩ all_e all_e) (all_n ⟨Tryz.func470,Tryz.call470⟩ all_e all_e))) (all_n ⟨Tryz.func118,Tryz.call118⟩ (all_n ⟨Tryz.func182,Tryz.call182⟩ (all_n ⟨Tryz.func310,Tryz.call310⟩ all_e all_e) (all_n ⟨Tryz.func438,Tryz.call438⟩ all_e all_e)) (all_n ⟨Tryz.func246,Tryz.call246⟩ (all_n ⟨Tryz.func374,Tryz.call374⟩ all_e all_e) all_e)))) (all_n ⟨Tryz.func30,Tryz.call30⟩ (all_n ⟨Tryz.func46,Tryz.call46⟩ (all_n ⟨Tryz.func78,Tryz.call78⟩ (all_n ⟨Tryz.func142,Tryz.call142⟩ (all_n ⟨Tryz.func270,Tryz.call270⟩ all_e all_e) (all_n ⟨Tryz.func398,Tryz.call398⟩ all_e all_e)) (all_n ⟨Tryz.func206,Tryz.call206⟩ (all_n ⟨Tryz.func334,Tryz.call334⟩ all_e all_e) (all_n ⟨Tryz.func462,Tryz.call462⟩ all_e all_e))) (all_n ⟨Tryz.func110,Tryz.call110⟩ (all_n ⟨Tryz.func174,Tryz.call174⟩ (all_n ⟨Tryz.func302,Tryz.call302⟩ all_e all_e) (all_n ⟨Tryz.func430,Tryz.call430⟩ all_e all_e)) (all_n ⟨Tryz.func238,Tryz.call238⟩ (all_n ⟨Tryz.func366,Tryz.call366⟩ all_e all_e) all_e))) (all_n ⟨Tryz.func62,Tryz.call62⟩ (all_n ⟨Tryz.func94,Tryz.call94⟩ (all_n ⟨Tryz.func158,Tryz.call158⟩ (all_n ⟨Tryz.func286,Tryz.call286⟩ all_e all_e) (all_n ⟨Tryz.func414,Tryz.call414⟩ all_e all_e)) (all_n ⟨Tryz.func222,Tryz.call222⟩ (all_n ⟨Tryz.func350,Tryz.call350⟩ all_e all_e) (all_n ⟨Tryz.func478,Tryz.call478⟩ all_e all_e))) (all_n ⟨Tryz.func126,Tryz.call126⟩ (all_n ⟨Tryz.func190,Tryz.call190⟩ (all_n ⟨Tryz.func318,Tryz.call318⟩ all_e all_e) (all_n ⟨Tryz.func446,Tryz.call446⟩ all_e all_e)) (all_n ⟨Tryz.func254,Tryz.call254⟩ (all_n ⟨Tryz.func382,Tryz.call382⟩ all_e all_e) all_e))))))))
end Ev
end Go.Proofs.YthknbcbkibbncaaGreat

/- DERIVED. The seat's types fit; names and params are compared by their cells; the table of functions, some taken whole. -/
set_option linter.unusedVariables false
set_option maxRecDepth 100000
namespace Go.Proofs.YthknbcbkibbncaaGreat
namespace Ev
open Go.RowKit

noncomputable def YT : Ty := ⟨fun t => tyT.get t, fun t => Nat.beq t 26 || Nat.beq t 28⟩
noncomputable def XW (ow : Nat → Option Nat) (f : Nat) : Option PF := (fnT.get f).bind fun fn => match ow f with
  | some k => some (.own k)
  | none => Cq.cF YT fn
theorem sizeCid : sizeT YT 26 = some 8 := by kernel_rfl
theorem sizePar : sizeT YT 28 = some 12 := by kernel_rfl
theorem layPar : Lay Tryz.prog (Tryz.prog.fieldsOf 28).toList 0 12 := by
  rw [show (Tryz.prog.fieldsOf 28).toList = [⟨"Idle", 24, 0, false, "", "", 0⟩, ⟨"MaxData", 24, 1, false, "", "", 8⟩, ⟨"MaxStreamData", 24, 2, false, "", "", 16⟩, ⟨"MaxStreams", 24, 3, false, "", "", 24⟩, ⟨"First", 26, 4, false, "", "", 32⟩] from by kernel_rfl]
  refine .num (f := ⟨"Idle", 24, 0, false, "", "", 0⟩) (by decide) rfl Tryz.underlying24 ?_
  refine .num (f := ⟨"MaxData", 24, 1, false, "", "", 8⟩) (by decide) rfl Tryz.underlying24 ?_
  refine .num (f := ⟨"MaxStreamData", 24, 2, false, "", "", 16⟩) (by decide) rfl Tryz.underlying24 ?_
  refine .num (f := ⟨"MaxStreams", 24, 3, false, "", "", 24⟩) (by decide) rfl Tryz.underlying24 ?_
  exact .arr (f := ⟨"First", 26, 4, false, "", "", 32⟩) (k := .u8) (i := Tryz.t5) (j := Tryz.t26) (by decide) rfl Tryz.underlying26 Tryz.underlying5 (by kernel_rfl) (by kernel_rfl) (by kernel_rfl) (by kernel_rfl) (.nil _)
theorem tyOk : TyOk Tryz.prog YT where
  t := fun t i h => tyT_all.get h
  q := by
    intro t ht op ng ho β D xs ys X Y r hX hY hs hc x y w
    have ht' : (Nat.beq t 26 || Nat.beq t 28) = true := ht
    rw [Bool.or_eq_true] at ht'
    rcases ht' with ht' | ht'
    · obtain rfl : t = 26 := Nat.eq_of_beq_eq_true ht'
      rw [sizeCid] at hs
      exact array_eql (n := 8) (e := 5) (k0 := .u8) Tryz.underlying26 Tryz.underlying5 Tryz.type5 (by kernel_rfl) Tryz.eqGuardType26 hX hY (by simpa using hs.symm) hc x y w ho
    · obtain rfl : t = 28 := Nat.eq_of_beq_eq_true ht'
      rw [sizePar] at hs
      exact struct_eql (n := 12) (by kernel_rfl) Tryz.stoodInHeld28 layPar Tryz.eqGuardType28 hX hY (by simpa using hs.symm) hc x y w ho
theorem tabOk {ow : Nat → Option Nat} (own : Nat → List AV → M AV) (ho : ∀ f k, ow f = some k → OwnOk Tryz.prog own k f) : TabOk Tryz.prog YT own (XW ow) where
  call := by
    intro f pf h args w
    unfold XW at h
    obtain ⟨fn, h1, h2⟩ := bi_some h
    exact (fnT_all.get h1).2 args w
  own := by
    intro f k h
    unfold XW at h
    obtain ⟨fn, h1, h2⟩ := bi_some h
    cases hw : ow f with
    | some k' =>
      rw [hw] at h2
      cases h2
      exact ho f k hw
    | none =>
      rw [hw] at h2
      have h2 := Cq.cF_ok h2
      simp only [cF] at h2
      obtain ⟨_, _, h2⟩ := bi_some h2
      obtain ⟨_, _, h2⟩ := bi_some h2
      obtain ⟨_, _, h2⟩ := bi_some h2
      cases h2
  walk := by
    intro f b r h
    unfold XW at h
    obtain ⟨fn, h1, h2⟩ := bi_some h
    cases hw : ow f with
    | some k' => rw [hw] at h2; cases h2
    | none =>
      rw [hw] at h2
      exact ⟨fn, (fnT_all.get h1).1, Cq.cF_ok h2⟩
theorem mixOk : Tryz.prog.follows .mixedOrders = true := by kernel_rfl
theorem closed {ow : Nat → Option Nat} {own : Nat → List AV → M AV} {oq : Nat → List AV → Kq.M AV} (hq : ∀ k l, Kq.Ref Eq (oq k l) (own k l)) (hl : ∀ k l, Loc (own k l)) (ho : ∀ f k, ow f = some k → OwnOk Tryz.prog own k f) {n f : Nat} (h : Kq.ask oq (XW ow) n f = true) (w : World) :
    Calls Tryz.prog f #[] w fun e w' => e = .returned (.bool true) ∧ Below w.heap.size w w' := by
  obtain ⟨s', hs⟩ := Kq.ask_ok hq h
  exact closed_ok tyOk mixOk hl (tabOk own ho) hs w
theorem memoed {ow : Nat → Option Nat} {own : Nat → List AV → M AV} {oq : Nat → List AV → Kq.M AV} (hq : ∀ k l, Kq.Ref Eq (oq k l) (own k l)) (hl : ∀ k l, Loc (own k l)) (ho : ∀ f k, ow f = some k → OwnOk Tryz.prog own k f) {n f : Nat} {t : List Memo}
    (h : ∀ m ∈ t, scal m.r = true ∧ m.a.all scal = true ∧ Kq.askR oq (XW ow) n f m = true) {own' : Nat → List AV → M AV} {k : Nat} (hk : own' k = memoF t) : OwnOk Tryz.prog own' k f :=
  memo_ok tyOk mixOk hl (tabOk own ho) (fun m hm => ⟨(h m hm).1, (h m hm).2.1, n, Kq.askR_ok hq (h m hm).2.2⟩) hk
noncomputable def ow0 (f : Nat) : Option Nat := match Nat.beq f 383 with
  | true => some 0
  | false => none
theorem ow0_ok {p : Nat → Nat → Prop} (h : p 383 0) : ∀ f k, ow0 f = some k → p f k := by
  intro f k hf
  unfold ow0 at hf
  cases hb : Nat.beq f 383 with
  | false => rw [hb] at hf; cases hf
  | true =>
    rw [hb] at hf
    cases hf
    obtain rfl := Nat.eq_of_beq_eq_true hb
    exact h
end Ev
end Go.Proofs.YthknbcbkibbncaaGreat
