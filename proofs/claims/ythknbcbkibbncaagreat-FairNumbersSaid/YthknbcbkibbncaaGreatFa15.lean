/- DERIVED. Calls of numbers alone, answered once by a run of their own: taken whole. -/
import Derived.Test.YthknbcbkibbncaaGreatFa2
import Derived.Test.YthknbcbkibbncaaGreatFa7
import Derived.Test.YthknbcbkibbncaaGreatFa10
import Derived.Test.YthknbcbkibbncaaGreatFa14
set_option linter.all false
set_option linter.unusedVariables false
namespace Go.Proofs.YthknbcbkibbncaaGreat
namespace Ev
open Go.RowKit
def scal (v : AV) : Bool := match v with
  | .b _ => true
  | .i _ _ => true
  | _ => false
section
variable {β β' : Id → CA} {D D' : Id → Prop}
theorem scal_mono {v : AV} {V : Value} (h : scal v = true) (hv : VR β D v V) : VR β' D' v V := by
  cases v <;> first | (cases h; done) | (simp only [VR] at hv ⊢; exact hv)
theorem scals_mono : ∀ {l : List AV} {L : List Value}, l.all scal = true → VRs β D l L → VRs β' D' l L
  | [], _, _, h => by simpa [VRs] using h
  | v :: l, _, ha, h => by
    simp only [VRs] at h ⊢
    obtain ⟨V, Vs, e, h1, h2⟩ := h
    rw [List.all_cons, Bool.and_eq_true] at ha
    exact ⟨V, Vs, e, scal_mono ha.1 h1, scals_mono ha.2 h2⟩
theorem ceqs_same : ∀ {a l : List AV}, ceqs a l = some true → l = a
  | [], [], _ => rfl
  | [], _ :: _, h => by simp [ceqs] at h
  | _ :: _, [], h => by simp [ceqs] at h
  | x :: a, y :: l, h => by
    simp only [ceqs] at h
    cases h1 : ceq x y with
    | none => rw [h1] at h; cases h
    | some r1 =>
      rw [h1] at h
      dsimp only at h
      cases h2 : ceqs a l with
      | none => rw [h2] at h; cases h
      | some r2 =>
        rw [h2] at h
        simp only [Option.some.injEq, Bool.and_eq_true] at h
        obtain ⟨rfl, rfl⟩ := h
        rw [ceqs_same h2]
        congr 1
        unfold ceq at h1
        split at h1
        · rename_i k x k' y
          cases hk : keq k k' with
          | false => rw [hk] at h1; cases h1
          | true =>
            rw [hk] at h1
            have e : k = k' := by cases k <;> cases k' <;> first | rfl | (exact absurd hk (by decide))
            subst e
            simp only [Option.some.injEq] at h1
            congr 1
            cases x <;> cases y <;> simp only [ieq] at h1 <;> first | (cases h1; done) | (rw [Nat.eq_of_beq_eq_true h1])
        · cases h1
/-- Memory after a call that leaves all that was there. -/
theorem Rel.after {B : Nat} {h : Heap} {W w w' : World} (hr : Rel β D B W h w) (hb : Below w.heap.size w w') : Rel β D B W h w' := by
  refine ⟨⟨fun id k hk => ?_, hr.hr.inj, hr.hr.old, Nat.le_trans hr.hr.size hb.size⟩, hr.bel.trans (hb.mono hr.hr.size)⟩
  obtain ⟨h1, h2⟩ := hr.hr.live id k hk
  refine ⟨h1, h2.keep (Ext.refl β D 0) ?_⟩
  obtain ⟨o, ho⟩ := h2.there
  exact hb.block _ (Array.getElem?_eq_some_iff.1 ho).1
end
/-- asked so, it answers so -/
structure Memo where
  a : List AV
  r : AV
def memoF (t : List Memo) (l : List AV) : M AV := match t with
  | [] => M.no
  | m :: t => match ceqs m.a l with
    | some b => match b with
      | true => M.pure m.r
      | false => memoF t l
    | none => memoF t l
theorem memo_some : ∀ {t : List Memo} {l : List AV} {s s' : S} {v : AV}, memoF t l s = some (v, s') → s' = s ∧ ∃ m ∈ t, l = m.a ∧ v = m.r
  | [], l, s, s', v, h => by simp [memoF, M.no] at h
  | m :: t, l, s, s', v, h => by
    simp only [memoF] at h
    have rest : memoF t l s = some (v, s') → s' = s ∧ ∃ m' ∈ m :: t, l = m'.a ∧ v = m'.r := fun h => by
      obtain ⟨e, m', hm, e1, e2⟩ := memo_some h
      exact ⟨e, m', by simp [hm], e1, e2⟩
    cases hc : ceqs m.a l with
    | none => rw [hc] at h; exact rest h
    | some b =>
      rw [hc] at h
      cases b with
      | false => exact rest h
      | true =>
        obtain ⟨rfl, rfl⟩ := pure_some h
        exact ⟨rfl, m, by simp, ceqs_same hc, rfl⟩
theorem Loc.memoF : ∀ (t : List Memo) (l : List AV), Loc (Ev.memoF t l)
  | [], l => Loc.no
  | m :: t, l => by
    simp only [Ev.memoF]
    cases ceqs m.a l with
    | none => exact Loc.memoF t l
    | some b =>
      cases b with
      | false => exact Loc.memoF t l
      | true => exact Loc.pure _
/-- Each answer is one that a run from empty memory gives. -/
def MemoOk (own : Nat → List AV → M AV) (X : Nat → Option PF) (f : Nat) (t : List Memo) : Prop := ∀ m ∈ t, scal m.r = true ∧ m.a.all scal = true ∧ ∃ n s', (run own X n).fn f m.a S0 = some (m.r, s')
theorem memo_ok {P : Program} {Y : Ty} {own : Nat → List AV → M AV} {X : Nat → Option PF} (hY : TyOk P Y) (hmix : P.follows .mixedOrders = true) (hown : ∀ k l, Loc (own k l)) (hX : TabOk P Y own X)
    {f : Nat} {t : List Memo} (ht : MemoOk own X f t) {own' : Nat → List AV → M AV} {k : Nat} (hk : own' k = memoF t) : OwnOk P own' k f := by
  intro l s v s' h β D B W w L hL hr hfr
  rw [hk] at h
  obtain ⟨rfl, m, hm, rfl, rfl⟩ := memo_some h
  obtain ⟨h1, h2, n, s1, h3⟩ := ht m hm
  have hL' : VRs (fun _ => ⟨0, 0, 0⟩) (fun _ => False) m.a L := scals_mono h2 hL
  have hc := (run_ok hY hmix hown hX n n (Nat.le_refl _) f m.a S0 _ _ h3 (fun _ => ⟨0, 0, 0⟩) (fun _ => False) w.heap.size w w L hL' (rel_empty w) (fun _ _ _ h => h)).2
  refine hc.mono ?_
  rintro e w' ⟨β', D', V, rfl, hx, hr', hv⟩
  exact ⟨β, D, V, rfl, Ext.refl _ _ _, hr.after hr'.bel, scal_mono h1 hv⟩
namespace Kq
noncomputable def memoQ (t : List Memo) (l : List AV) : M AV := match t with
  | [] => M.no
  | m :: t => match ceqs m.a l with
    | some b => match b with
      | true => M.pure m.r
      | false => memoQ t l
    | none => memoQ t l
theorem Ref.memoQ : ∀ (t : List Memo) (l : List AV), Ref Eq (Kq.memoQ t l) (Ev.memoF t l)
  | [], l => Ref.no
  | m :: t, l => by
    simp only [Kq.memoQ, Ev.memoF]
    cases ceqs m.a l with
    | none => exact Ref.memoQ t l
    | some b =>
      cases b with
      | false => exact Ref.memoQ t l
      | true => exact Ref.ret _
def isR (r v : AV) : Bool := match r with
  | .b x => match v with
    | .b y => match x with
      | true => y
      | false => !y
    | _ => false
  | r => match ceq r v with
    | some b => b
    | none => false
theorem isR_eq {r v : AV} (h : isR r v = true) : v = r := by
  have key : (match ceq r v with | some b => b | none => false) = true → v = r := fun h => by
    cases hc : ceq r v with
    | none => rw [hc] at h; cases h
    | some b =>
      rw [hc] at h
      simp only at h
      subst h
      have : ceqs [r] [v] = some true := by simp [ceqs, hc]
      have := ceqs_same this
      cases this
      rfl
  cases r with
  | b x =>
    cases v with
    | b y =>
      cases x <;> cases y <;> first | rfl | (simp [isR] at h)
    | _ => simp [isR] at h
  | _ => exact key h
/-- a call of numbers, from empty memory -/
noncomputable def askR (own : Nat → List AV → M AV) (X : Nat → Option PF) (n f : Nat) (m : Memo) : Bool := (runQ own X n).fn f m.a st0 fun v _ => isR m.r v
theorem askR_ok {oq : Nat → List AV → M AV} {os : Nat → List AV → Ev.M AV} (ho : ∀ k l, Ref Eq (oq k l) (os k l)) {X : Nat → Option PF} {n f : Nat} {m : Memo} (h : askR oq X n f m = true) : ∃ s', (run os X n).fn f m.a S0 = some (m.r, s') := by
  obtain ⟨a, b, t', s', h1, h2, h3, h4⟩ := runQ_ok ho X n f m.a st0 S0 _ rs0 h
  subst h2
  rw [isR_eq h4] at h1
  exact ⟨s', h1⟩
end Kq
end Ev
end Go.Proofs.YthknbcbkibbncaaGreat

/- DERIVED. Structs of numbers, and of rows of numbers, are compared cell for cell. -/
set_option linter.unusedVariables false
namespace Go.Proofs.YthknbcbkibbncaaGreat
namespace Ev
open Go.RowKit
/-- A struct's fields from a cell on: numbers, rows of numbers; how many cells. -/
inductive Lay (P : Program) : List Field → Nat → Nat → Prop where
  | nil (o : Nat) : Lay P [] o 0
  | num {f : Field} {fs : List Field} {o n : Nat} {k : IntKind} (hn : f.name ≠ "_") (ho : f.offset = o) (ht : P.underlying f.type = some (.int k)) (h : Lay P fs (o + 1) n) : Lay P (f :: fs) o (n + 1)
  | arr {f : Field} {fs : List Field} {o n m : Nat} {el : TypeId} {k : IntKind} {i j : TypeInfo} (hn : f.name ≠ "_") (ho : f.offset = o) (ht : P.underlying f.type = some (.array m el)) (he : P.underlying el = some (.int k))
      (hi : P.info? el = some i) (hs : i.size = 1) (hj : P.info? f.type = some j) (hm : j.size = m) (h : Lay P fs (o + m) n) : Lay P (f :: fs) o (n + m)
theorem ceqs_len : ∀ {xs ys : List AV} {r : Bool}, ceqs xs ys = some r → xs.length = ys.length
  | [], [], _, _ => rfl
  | [], _ :: _, _, h => by simp [ceqs] at h
  | _ :: _, [], _, h => by simp [ceqs] at h
  | x :: xs, y :: ys, r, h => by
    simp only [ceqs] at h
    cases h1 : ceq x y with
    | none => rw [h1] at h; cases h
    | some r1 =>
      rw [h1] at h
      dsimp only at h
      cases h2 : ceqs xs ys with
      | none => rw [h2] at h; cases h
      | some r2 => simp [ceqs_len h2]
theorem ceqs_split : ∀ {a b c d : List AV} {r : Bool}, a.length = c.length → ceqs (a ++ b) (c ++ d) = some r → ∃ r1 r2, ceqs a c = some r1 ∧ ceqs b d = some r2 ∧ r = (r1 && r2)
  | [], b, [], d, r, _, h => ⟨true, r, rfl, h, by simp⟩
  | [], _, _ :: _, _, _, hl, _ => by simp at hl
  | _ :: _, _, [], _, _, hl, _ => by simp at hl
  | x :: a, b, y :: c, d, r, hl, h => by
    simp only [List.cons_append, ceqs] at h
    cases h1 : ceq x y with
    | none => rw [h1] at h; cases h
    | some q =>
      rw [h1] at h
      dsimp only at h
      cases h2 : ceqs (a ++ b) (c ++ d) with
      | none => rw [h2] at h; cases h
      | some q2 =>
        rw [h2] at h
        cases h
        obtain ⟨r1, r2, e1, e2, e3⟩ := ceqs_split (by simpa using hl) h2
        exact ⟨q && r1, r2, by simp only [ceqs, h1, e1], e2, by rw [e3, Bool.and_assoc]⟩
theorem flds_eq {P : Program} {β : Id → CA} {D : Id → Prop} (w : World) (d : Nat) (A B : Array Value) {fs : List Field} {o n : Nat} (hL : Lay P fs o n) :
    ∀ (xs ys : List AV) (X Y : List Value) (r : Bool), xs.length = n → (∀ j, A[o + j]? = X[j]?) → (∀ j, B[o + j]? = Y[j]?) → VRs β D xs X → VRs β D ys Y → ceqs xs ys = some r →
      (Op.eqFields (d + 2) A B fs).run P w = .ok r w := by
  induction hL with
  | nil o =>
    intro xs ys X Y r hn hA hB hX hY h
    obtain rfl : xs = [] := List.eq_nil_of_length_eq_zero hn
    cases ys with
    | nil =>
      simp only [ceqs] at h
      cases h
      simp [Op.eqFields]
    | cons y ys => simp [ceqs] at h
  | @num f fs o n k hf ho ht hL ih =>
    intro xs ys X Y r hn hA hB hX hY h
    cases xs with
    | nil => simp at hn
    | cons x xs =>
     cases ys with
     | nil => simp [ceqs] at h
     | cons y ys =>
      simp only [VRs] at hX hY
      obtain ⟨X1, X', rfl, hX1, hX⟩ := hX
      obtain ⟨Y1, Y', rfl, hY1, hY⟩ := hY
      simp only [ceqs] at h
      cases h1 : ceq x y with
      | none => rw [h1] at h; cases h
      | some r1 =>
        rw [h1] at h
        dsimp only at h
        cases h2 : ceqs xs ys with
        | none => rw [h2] at h; cases h
        | some r2 =>
          rw [h2] at h
          cases h
          obtain ⟨k', a, b, rfl, rfl, rfl⟩ := ceq_int h1 hX1 hY1
          have hA0 := hA 0
          have hB0 := hB 0
          simp only [Nat.add_zero, List.getElem?_cons_zero] at hA0 hB0
          have pa : (part f.type A f.offset).run P w = .ok (.int k' a) w := by simp [part, isAgg, Sem.run_bind, run_underlying ht, ho, hA0]
          have pb : (part f.type B f.offset).run P w = .ok (.int k' b) w := by simp [part, isAgg, Sem.run_bind, run_underlying ht, ho, hB0]
          have hrest := ih xs ys X' Y' r2 (by simpa using hn) (fun j => by have := hA (j + 1); rw [show o + 1 + j = o + (j + 1) by omega]; simpa using this)
            (fun j => by have := hB (j + 1); rw [show o + 1 + j = o + (j + 1) by omega]; simpa using this) hX hY h2
          simp only [Op.eqFields, hf, ne_eq, not_false_eq_true, if_true, Sem.run_bind, pa, pb, Result.andThen_ok, run_equalIn_int w (d + 1) f.type k' k _ _ ht]
          cases hab : (a == b)
          · simp [Sem.run_pure]
          · simpa using hrest
  | @arr f fs o n m el k i j hf ho ht he hi hs hj hm hL ih =>
    intro xs ys X Y r hn hA hB hX hY h
    have hlen := ceqs_len h
    have ex : xs = xs.take m ++ xs.drop m := (List.take_append_drop m xs).symm
    have ey : ys = ys.take m ++ ys.drop m := (List.take_append_drop m ys).symm
    have hxm : (xs.take m).length = m := by rw [List.length_take]; omega
    have hym : (ys.take m).length = m := by rw [List.length_take]; omega
    rw [ex, ey] at h
    obtain ⟨r1, r2, e1, e2, rfl⟩ := ceqs_split (by rw [hxm, hym]) h
    have hXl := hX.length
    have hYl := hY.length
    have hagg : ∀ w, (isAgg f.type).run P w = .ok true w := fun w => by simp [isAgg, run_underlying ht]
    have hsz : ∀ w, (sizeOf f.type).run P w = .ok m w := fun w => by simp [run_sizeOf w hj, Program.cellsOf, hj, hm]
    have pa : (part f.type A f.offset).run P w = .ok (.agg (A.extract o (o + m))) w := by
      unfold part
      simp only [Sem.run_bind, hagg, Result.andThen_ok, hsz, if_true, Sem.run_pure, ho]
    have pb : (part f.type B f.offset).run P w = .ok (.agg (B.extract o (o + m))) w := by
      unfold part
      simp only [Sem.run_bind, hagg, Result.andThen_ok, hsz, if_true, Sem.run_pure, ho]
    have hex : ∀ (A : Array Value) (X : List Value), (∀ j, A[o + j]? = X[j]?) → X.length = xs.length → ∀ j, (A.extract o (o + m))[j]? = (X.take m)[j]? := fun A X hA hl j => by
      rw [List.getElem?_take, Array.getElem?_extract]
      have hsize : o + X.length ≤ A.size ∨ X = [] := by
        cases hX : X with
        | nil => exact .inr rfl
        | cons q qs =>
          left
          have h1 := hA (X.length - 1)
          rw [List.getElem?_eq_getElem (by rw [hX]; simp)] at h1
          have := (Array.getElem?_eq_some_iff.1 h1).1
          rw [hX] at this
          simp at this ⊢
          omega
      by_cases hjm : j < m
      · rw [if_pos hjm, ← hA j]
        rcases hsize with hsize | hsize
        · rw [if_pos (by omega)]
        · rw [hsize] at hl
          simp at hl
          omega
      · rw [if_neg hjm, if_neg (by omega)]
    have hrow : (Op.equalIn (d + 2) f.type (.agg (A.extract o (o + m))) (.agg (B.extract o (o + m)))).run P w = .ok r1 w := by
      have hc : P.cellsOf el = 1 := by simp [Program.cellsOf, hi, hs]
      rw [run_equalIn_array w (d + 1) _ _ ht hi, hc, List.range_eq_range']
      have := items_eq he w d (A.extract o (o + m)) (B.extract o (o + m)) (xs.take m) (ys.take m) (X.take m) (Y.take m) 0 r1 (fun j => by rw [Nat.zero_add]; exact hex A X hA hXl j) (fun j => by rw [Nat.zero_add]; exact hex B Y hB (by omega) j) (hX.take m) (hY.take m) e1
      rw [hxm] at this
      exact this
    have hrest := ih (xs.drop m) (ys.drop m) (X.drop m) (Y.drop m) r2 (by rw [List.length_drop]; omega) (fun j => by rw [List.getElem?_drop, ← hA]; congr 1; omega) (fun j => by rw [List.getElem?_drop, ← hB]; congr 1; omega) (hX.drop m) (hY.drop m) e2
    simp only [Op.eqFields, hf, ne_eq, not_false_eq_true, if_true, Sem.run_bind, pa, pb, Result.andThen_ok, hrow]
    cases r1
    · simp [Sem.run_pure]
    · simpa using hrest
/-- What TyOk asks of a struct. -/
theorem struct_eql {P : Program} {t : TypeId} {n : Nat} (ht : P.underlying t = some (.struct (P.fieldsOf t))) (hp : P.stoodInHeld t = false) (hL : Lay P (P.fieldsOf t).toList 0 n)
    (hq : P.eqGuardType P.depth t = false) {β : Id → CA} {D : Id → Prop} {xs ys : List AV} {X Y : List Value} {r : Bool} (hX : VRs β D xs X) (hY : VRs β D ys Y) (hn : xs.length = n) (hc : ceqs xs ys = some r)
    (x y : Operand) (w : World) {op : BinOp} {ng : Bool} (ho : op = .eql ∧ ng = false ∨ op = .neq ∧ ng = true) :
    (do eqGuard op t x y (.agg X.toArray) (.agg Y.toArray); binOp op t (.agg X.toArray) (.agg Y.toArray) : Sem Value).run P w = .ok (.bool (ng != r)) w := by
  have hE : (Op.equalIn 10000 t (.agg X.toArray) (.agg Y.toArray)).run P w = .ok r w := by
    rw [show (10000 : Nat) = 9997 + 2 + 1 from rfl, run_equalIn_agg w (9997 + 2) t _ _ ht hp]
    exact flds_eq w 9997 _ _ hL xs ys X Y r hn (fun j => by simp) (fun j => by simp) hX hY hc
  rcases ho with ⟨rfl, rfl⟩ | ⟨rfl, rfl⟩
  · rw [Sem.run_bind, run_eqGuard_agg w _ _ x y _ _ hq]
    simp only [Result.andThen_ok]
    rw [run_eql_struct, hE]
    simp
  · rw [Sem.run_bind, run_eqGuard_agg w _ _ x y _ _ hq]
    simp only [Result.andThen_ok]
    rw [run_neq_struct, hE]
    simp
end Ev
end Go.Proofs.YthknbcbkibbncaaGreat

/- DERIVED. The evaluator's code out of the program's, made for the kernel: the same code, found with fewer steps. -/
set_option linter.unusedVariables false
namespace Go.Proofs.YthknbcbkibbncaaGreat
namespace Ev
namespace Cq
noncomputable def nthL {α : Type} (l : List α) (n : Nat) : Option α := List.rec (motive := fun _ => Nat → Option α) (fun _ => none) (fun a _ ih n => Nat.rec (motive := fun _ => Option α) (some a) (fun m _ => ih m) n) l n
theorem nthL_eq {α : Type} : ∀ (l : List α) (n : Nat), nthL l n = l[n]?
  | [], _ => rfl
  | _ :: _, 0 => rfl
  | _ :: l, n + 1 => (nthL_eq l n).trans (by simp)
noncomputable def natL (l : List Nat) (n : Nat) : Nat := List.rec (motive := fun _ => Nat → Nat) (fun _ => 0) (fun a _ ih n => Nat.rec (motive := fun _ => Nat) a (fun m _ => ih m) n) l n
theorem natL_eq : ∀ (l : List Nat) (n : Nat), natL l n = l[n]?.getD 0
  | [], _ => rfl
  | _ :: _, 0 => rfl
  | _ :: l, n + 1 => (natL_eq l n).trans (by simp)
/-- k: how many are ahead -/
noncomputable def ancL (acc : List Nat) (k : Nat) (l : List Edge) : Nat := match l with
  | [] => 0
  | ed :: l => match Region.binds .any ed && Nat.blt ed.on k with
    | true => Nat.lor (ancL acc k l) (Nat.lor (Nat.shiftLeft 1 ed.on) (natL acc (Nat.sub (Nat.sub k 1) ed.on)))
    | false => ancL acc k l
noncomputable def anc (acc : List Nat) (k : Nat) (l : List Oper) : List Nat := match l with
  | [] => acc.reverse
  | o :: l => anc (ancL acc k o.after.toList :: acc) (Nat.succ k) l
theorem ancL_eq (acc : List Nat) : ∀ l : List Edge, ancL acc acc.length l = Ev.ancL acc l
  | [] => rfl
  | ed :: l => by
    simp only [ancL, Ev.ancL, ancL_eq acc l, natL_eq]
    rfl
theorem anc_eq : ∀ (l : List Oper) (acc : List Nat), anc acc acc.length l = Ev.anc acc l
  | [], _ => rfl
  | o :: l, acc => by
    simp only [anc, Ev.anc, ancL_eq]
    exact anc_eq l (Ev.ancL acc o.after.toList :: acc)

def bitN (n : Nat) : Nat := Nat.shiftLeft 1 n
noncomputable def msk (l : List Nat) : Nat := List.rec (motive := fun _ => Nat) 0 (fun n _ m => Nat.lor (bitN n) m) l
noncomputable def mskD (d : Option Nat) : Nat := match d with
  | none => 0
  | some t => bitN t
theorem bitN_same (n : Nat) : Nat.testBit (bitN n) n = true := by
  show Nat.testBit (1 <<< n) n = true
  simp [Nat.testBit_shiftLeft]
theorem msk_mem : ∀ {l : List Nat} {n : Nat}, n ∈ l → Nat.testBit (msk l) n = true
  | [], _, h => by cases h
  | m :: l, n, h => by
    show Nat.testBit (bitN m ||| msk l) n = true
    rw [Nat.testBit_or]
    rcases List.mem_cons.1 h with rfl | h
    · rw [bitN_same, Bool.true_or]
    · rw [msk_mem h, Bool.or_true]
theorem mskD_some (t : Nat) : Nat.testBit (mskD (some t)) t = true := bitN_same t
theorem and_zero {a b n : Nat} (h : Nat.land a b = 0) (ha : Nat.testBit a n = true) : Nat.testBit b n = false := by
  have h1 : Nat.testBit (a &&& b) n = false := by
    show Nat.testBit (Nat.land a b) n = false
    rw [h]; simp
  rw [Nat.testBit_and, ha, Bool.true_and] at h1
  exact h1
/-- an operation ahead: its bit, the slot it writes, those it reads -/
structure SI where
  i : Nat
  b : Nat
  d : Nat
  r : Nat
noncomputable def slA (m d r : Nat) (acc : List SI) : Bool := List.rec (motive := fun _ => Bool) true (fun a _ ih => Bool.rec (motive := fun _ => Bool → Bool) (fun ih => ih)
  (fun ih => Bool.rec (motive := fun _ => Bool → Bool) (fun _ => false) (fun ih => ih) (Nat.beq (Nat.lor (Nat.land a.d (Nat.lor r d)) (Nat.land d a.r)) 0) ih) (Nat.beq (Nat.land m a.b) 0) ih) acc
noncomputable def slQ (l : List PS) (ms : List Nat) (acc : List SI) (i : Nat) : Bool := match l with
  | [] => true
  | o :: l => match ms with
    | [] => false
    | m :: ms => match slA m (mskD o.d) (msk (readsS o)) acc with
      | false => false
      | true => slQ l ms (⟨i, bitN i, mskD o.d, msk (readsS o)⟩ :: acc) (Nat.succ i)
theorem lor_zero {a b : Nat} (h : Nat.lor a b = 0) : a = 0 ∧ b = 0 := by
  have key : ∀ n, Nat.testBit a n = false ∧ Nat.testBit b n = false := fun n => by
    have h1 : Nat.testBit (a ||| b) n = false := by
      show Nat.testBit (Nat.lor a b) n = false
      rw [h]; simp
    rw [Nat.testBit_or, Bool.or_eq_false_iff] at h1
    exact h1
  exact ⟨Nat.eq_of_testBit_eq fun n => by rw [(key n).1]; simp, Nat.eq_of_testBit_eq fun n => by rw [(key n).2]; simp⟩
theorem slA_ok {m d r : Nat} : ∀ {acc : List SI}, slA m d r acc = true → ∀ a ∈ acc, Nat.land m a.b = 0 → Nat.land a.d (Nat.lor r d) = 0 ∧ Nat.land d a.r = 0
  | [], _, a, ha, _ => by cases ha
  | x :: acc, h, a, ha, hz => by
    have h' : Bool.rec (motive := fun _ => Bool → Bool) (fun ih => ih) (fun ih => Bool.rec (motive := fun _ => Bool → Bool) (fun _ => false) (fun ih => ih) (Nat.beq (Nat.lor (Nat.land x.d (Nat.lor r d)) (Nat.land d x.r)) 0) ih) (Nat.beq (Nat.land m x.b) 0) (slA m d r acc) = true := h
    cases h1 : Nat.beq (Nat.land m x.b) 0 with
    | false =>
      rw [h1] at h'
      rcases List.mem_cons.1 ha with rfl | ha
      · rw [hz] at h1; cases h1
      · exact slA_ok h' a ha hz
    | true =>
      rw [h1] at h'
      dsimp only at h'
      cases h2 : Nat.beq (Nat.lor (Nat.land x.d (Nat.lor r d)) (Nat.land d x.r)) 0 with
      | false => rw [h2] at h'; cases h'
      | true =>
        rw [h2] at h'
        rcases List.mem_cons.1 ha with rfl | ha
        · exact lor_zero (Nat.eq_of_beq_eq_true h2)
        · exact slA_ok h' a ha hz
theorem apart_of {a b : PS} (h1 : Nat.land (mskD a.d) (Nat.lor (msk (readsS b)) (mskD b.d)) = 0) (h2 : Nat.land (mskD b.d) (msk (readsS a)) = 0) : apartS a b = true ∧ apartS b a = true := by
  have hab : ∀ t, a.d = some t → Nat.testBit (msk (readsS b)) t = false ∧ Nat.testBit (mskD b.d) t = false := fun t ht => by
    have := and_zero h1 (n := t) (by rw [ht]; exact mskD_some t)
    have h3 : Nat.testBit (msk (readsS b) ||| mskD b.d) t = false := this
    rw [Nat.testBit_or, Bool.or_eq_false_iff] at h3
    exact h3
  have ne : ∀ t u, a.d = some t → b.d = some u → t ≠ u := fun t u ht hu e => by
    have := (hab t ht).2
    rw [hu, e, mskD_some] at this
    cases this
  constructor
  · unfold apartS
    cases ha : a.d with
    | none => rfl
    | some t =>
      dsimp only
      have hn : t ∉ readsS b := fun hm => by have h3 := (hab t ha).1; rw [msk_mem hm] at h3; cases h3
      have : (readsS b).contains t = false := by simpa using hn
      rw [this]
      cases hb : b.d with
      | none => rfl
      | some u =>
        have := ne t u ha hb
        simp only [Bool.not_false, Bool.true_and]
        have hne : (some u == some t) = false := by simpa using fun e => this e.symm
        rw [hne]
        rfl
  · unfold apartS
    cases hb : b.d with
    | none => rfl
    | some u =>
      dsimp only
      have h3 := and_zero h2 (n := u) (by rw [hb]; exact mskD_some u)
      have hn : u ∉ readsS a := fun hm => by rw [msk_mem hm] at h3; cases h3
      have : (readsS a).contains u = false := by simpa using hn
      rw [this]
      cases ha : a.d with
      | none => rfl
      | some t =>
        have := ne t u ha hb
        simp only [Bool.not_false, Bool.true_and]
        have hne : (some t == some u) = false := by simpa using this
        rw [hne]
        rfl
theorem land_bit {m i : Nat} (h : Nat.testBit m i = false) : Nat.land m (bitN i) = 0 := by
  apply Nat.eq_of_testBit_eq
  intro n
  show Nat.testBit (m &&& (1 <<< i)) n = _
  rw [Nat.testBit_and, Nat.zero_testBit]
  by_cases hn : n = i
  · subst hn; rw [h, Bool.false_and]
  · have : Nat.testBit (1 <<< i) n = false := by
      simp only [Nat.shiftLeft_eq, Nat.one_mul]
      rw [Nat.testBit_two_pow]
      simpa using fun e => hn e.symm
    rw [this, Bool.and_false]
theorem slQ_ok : ∀ (l : List PS) (ms : List Nat) (pre : List PS) (acc : List SI), slQ l ms acc pre.length = true →
    (∀ i a, pre[i]? = some a → (⟨i, bitN i, mskD a.d, msk (readsS a)⟩ : SI) ∈ acc) →
    ∀ i j a b, i < j → pre.length ≤ j → (pre ++ l)[i]? = some a → (pre ++ l)[j]? = some b → Nat.testBit (ms[j - pre.length]?.getD 0) i = false → apartS a b = true ∧ apartS b a = true
  | [], ms, pre, acc, h, hp, i, j, a, b, hij, hj, ha, hb, ht => by
    rw [List.append_nil, List.getElem?_eq_none hj] at hb
    cases hb
  | o :: l, [], pre, acc, h, hp, i, j, a, b, hij, hj, ha, hb, ht => by simp [slQ] at h
  | o :: l, m :: ms, pre, acc, h, hp, i, j, a, b, hij, hj, ha, hb, ht => by
    simp only [slQ] at h
    cases hs : slA m (mskD o.d) (msk (readsS o)) acc with
    | false => rw [hs] at h; cases h
    | true =>
      rw [hs] at h
      dsimp only at h
      by_cases he : j = pre.length
      · subst he
        rw [List.getElem?_append_right (Nat.le_refl _), Nat.sub_self] at hb
        simp only [List.getElem?_cons_zero, Option.some.injEq] at hb
        subst hb
        rw [List.getElem?_append_left hij] at ha
        rw [Nat.sub_self] at ht
        simp only [List.getElem?_cons_zero, Option.getD_some] at ht
        have := slA_ok hs _ (hp i a ha) (land_bit ht)
        exact apart_of this.1 this.2
      · have hl : (pre ++ [o]).length = pre.length + 1 := by simp
        refine slQ_ok l ms (pre ++ [o]) (⟨pre.length, bitN pre.length, mskD o.d, msk (readsS o)⟩ :: acc) (by rw [hl]; exact h) (fun i' a' hi' => ?_) i j a b hij (by omega) (by rw [List.append_assoc]; exact ha) (by rw [List.append_assoc]; exact hb) ?_
        · by_cases hq : i' < pre.length
          · rw [List.getElem?_append_left hq] at hi'
            exact List.mem_cons_of_mem _ (hp i' a' hi')
          · rw [List.getElem?_append_right (by omega)] at hi'
            have h0 : i' = pre.length := by
              rcases Nat.lt_or_ge (i' - pre.length) 1 with h1 | h1
              · omega
              · rw [List.getElem?_eq_none (by simpa using h1)] at hi'; cases hi'
            subst h0
            simp at hi'
            subst hi'
            exact List.mem_cons_self ..
        · rw [hl]
          have e : j - pre.length = (j - (pre.length + 1)) + 1 := by omega
          rw [e, List.getElem?_cons_succ] at ht
          exact ht
theorem slQ_slots {l : List PS} {ms : List Nat} (h : slQ l ms [] 0 = true) : slotsOk l ms = true := by
  unfold slotsOk
  rw [List.all_eq_true]
  intro j hj
  rw [List.all_eq_true]
  intro i hi
  rw [List.mem_range] at hj hi
  cases ht : Nat.testBit (ms[j]?.getD 0) i with
  | true => rfl
  | false =>
    obtain ⟨a, ha⟩ : ∃ a, l[i]? = some a := ⟨l[i], by simp [show i < l.length by omega]⟩
    obtain ⟨b, hb⟩ : ∃ b, l[j]? = some b := ⟨l[j], by simp [hj]⟩
    have := slQ_ok l ms [] [] h (fun i a hi => by simp at hi) i j a b hi (Nat.zero_le _) ha hb ht
    rw [ha, hb]
    simp only [Bool.false_or, this.1, this.2, Bool.and_self]
/- the code -/
noncomputable def cG (N : Nat) (ops : List Oper) (g : Option (Nat × Bool)) : Option (Option (Nat × Bool)) := match g with
  | none => some none
  | some jw => (nthL ops jw.1).bind fun o' => o'.dst.bind fun gd => (guardB (Nat.blt gd N)).bind fun _ => some (some (gd, jw.2))
theorem cG_eq (N : Nat) (ops : List Oper) (g : Option (Nat × Bool)) : cG N ops g = Ev.cG N ops g := by
  cases g with
  | none => rfl
  | some jw => simp only [cG, Ev.cG, nthL_eq]
noncomputable def cS (Y : Ty) (N : Nat) (ops : List Oper) (o : Oper) : Option PS := (cOp Y o.op).bind fun p => (cG N ops o.guard).bind fun g => (guardB (dstOk N o.dst)).bind fun _ => some ⟨g, o.dst, p⟩
noncomputable def cSs (Y : Ty) (N : Nat) (ops l : List Oper) : Option (List PS) := match l with
  | [] => some []
  | o :: l => (cS Y N ops o).bind fun a => (cSs Y N ops l).bind fun as => some (a :: as)
theorem cSs_eq (Y : Ty) (N : Nat) (ops : List Oper) : ∀ l : List Oper, cSs Y N ops l = Ev.cSs Y N ops l
  | [] => rfl
  | o :: l => by simp only [cSs, Ev.cSs, cS, Ev.cS, cG_eq, cSs_eq Y N ops l]
noncomputable def cC (Y : Ty) (N : Nat) (c : Code) : Option PC := match c with
  | .skip => some .skip
  | .ret => some .ret
  | .exit id => some (.exit id)
  | .seq a b => (cC Y N a).bind fun a => (cC Y N b).bind fun b => some (.seq a b)
  | .cond x a b => (cA x).bind fun x => (cC Y N a).bind fun a => (cC Y N b).bind fun b => some (.cond x a b)
  | .block id b => (cC Y N b).bind fun p => some (.block id p)
  | .loop b => (cC Y N b).bind fun p => some (.loop p)
  | .region _ ops d => (cSs Y N ops.toList ops.toList).bind fun l => match d with
    | false => some (.reg l)
    | true => (fun ms => (guardB (slQ l ms [] 0 && backOk 0 ops.toList)).bind fun _ => some (.drw l ms)) (anc [] 0 ops.toList)
  | _ => none
theorem bind_mono {α β : Type} {o o' : Option α} {f f' : α → Option β} {x : β} (h : o.bind f = some x) (ho : ∀ a, o = some a → o' = some a) (hf : ∀ a, f a = some x → f' a = some x) : o'.bind f' = some x := by
  cases o with
  | none => cases h
  | some a => rw [ho a rfl]; exact hf a h
theorem cC_ok (Y : Ty) (N : Nat) : ∀ (c : Code) (x : PC), cC Y N c = some x → Ev.cC Y N c = some x
  | .skip, _, h => h
  | .ret, _, h => h
  | .exit _, _, h => h
  | .seq a b, x, h => bind_mono h (fun y hy => cC_ok Y N a y hy) fun a h => bind_mono h (fun y hy => cC_ok Y N b y hy) fun _ h => h
  | .cond c a b, x, h => bind_mono h (fun _ hy => hy) fun _ h => bind_mono h (fun y hy => cC_ok Y N a y hy) fun a h => bind_mono h (fun y hy => cC_ok Y N b y hy) fun _ h => h
  | .block _ b, x, h => bind_mono h (fun y hy => cC_ok Y N b y hy) fun _ h => h
  | .loop b, x, h => bind_mono h (fun y hy => cC_ok Y N b y hy) fun _ h => h
  | .region p ops d, x, h => by
    simp only [cC, cSs_eq] at h
    simp only [Ev.cC]
    refine bind_mono h (fun _ hy => hy) fun l h => ?_
    cases d with
    | false => exact h
    | true =>
      dsimp only at h ⊢
      have he := anc_eq ops.toList []
      simp only [List.length_nil] at he
      rw [he] at h
      cases hg : (slQ l (Ev.anc [] ops.toList) [] 0 && backOk 0 ops.toList) with
      | false => rw [hg] at h; cases h
      | true =>
        rw [hg] at h
        rw [Bool.and_eq_true] at hg
        rw [slQ_slots hg.1, hg.2]
        exact h
noncomputable def cF (Y : Ty) (fn : Func) : Option PF := fn.body.bind fun c => (cC Y fn.ntmps c).bind fun b => (cRs Y fn.results.toList).bind fun rs => some (.f b rs)
theorem cF_ok {Y : Ty} {fn : Func} {x : PF} (h : cF Y fn = some x) : Ev.cF Y fn = some x :=
  bind_mono h (fun _ hy => hy) fun c h => bind_mono h (fun y hy => cC_ok Y fn.ntmps c y hy) fun _ h => h
end Cq
end Ev
end Go.Proofs.YthknbcbkibbncaaGreat
