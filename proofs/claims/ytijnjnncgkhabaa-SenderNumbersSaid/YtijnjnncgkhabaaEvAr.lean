/- DERIVED. Arrays of numbers are compared cell for cell. -/
import Derived.Test.YtijnjnncgkhabaaEvO
import Derived.ChangeKeysEq
set_option linter.unusedVariables false
namespace Go.Proofs.Ytijnjnncgkhabaa
namespace Ev
open Go.RowKit
theorem keq_eq {k k' : IntKind} (h : keq k k' = true) : k = k' := by cases k <;> cases k' <;> first | rfl | (exact absurd h (by decide))
theorem ieq_beq (x y : Int) : ieq x y = (x == y) := by
  cases x <;> cases y <;> simp [ieq] <;> first | rfl | skip
  · rename_i a b
    by_cases h : a = b
    · subst h; simp
    · have : ¬ Nat.beq a b = true := fun e => h (Nat.eq_of_beq_eq_true e)
      simp [this]
      omega
  · rename_i a b
    by_cases h : a = b
    · subst h; simp
    · have : ¬ Nat.beq a b = true := fun e => h (Nat.eq_of_beq_eq_true e)
      simp [h, this]
theorem ceq_int {β : Id → CA} {D : Id → Prop} {x y : AV} {r : Bool} {X Y : Value} (h : ceq x y = some r) (hx : VR β D x X) (hy : VR β D y Y) : ∃ k a b, X = .int k a ∧ Y = .int k b ∧ r = (a == b) := by
  cases x <;> first | (simp only [ceq] at h; cases h; done) | skip
  cases y <;> first | (simp only [ceq] at h; cases h; done) | skip
  rename_i k a k' b
  simp only [ceq] at h
  cases hk : keq k k' with
  | false => rw [hk] at h; cases h
  | true =>
    rw [hk] at h
    cases h
    obtain rfl := keq_eq hk
    simp only [VR] at hx hy
    subst hx hy
    exact ⟨k, a, b, rfl, rfl, ieq_beq a b⟩
theorem items_eq {P : Program} {e : TypeId} {k0 : IntKind} (he : P.underlying e = some (.int k0)) {β : Id → CA} {D : Id → Prop} (w : World) (d : Nat) (A B : Array Value) :
    ∀ (xs ys : List AV) (X Y : List Value) (s : Nat) (r : Bool), (∀ j, A[s + j]? = X[j]?) → (∀ j, B[s + j]? = Y[j]?) → VRs β D xs X → VRs β D ys Y → ceqs xs ys = some r →
      (Op.eqItems (d + 1) e 1 A B (List.range' s xs.length)).run P w = .ok r w
  | [], [], X, Y, s, r, _, _, _, _, h => by
    simp only [ceqs] at h
    cases h
    simp [Op.eqItems]
  | [], _ :: _, X, Y, s, r, _, _, _, _, h => by simp [ceqs] at h
  | _ :: _, [], X, Y, s, r, _, _, _, _, h => by simp [ceqs] at h
  | x :: xs, y :: ys, X, Y, s, r, hA, hB, hX, hY, h => by
    simp only [VRs] at hX hY
    obtain ⟨X1, X', rfl, hX1, hX⟩ := hX
    obtain ⟨Y1, Y', rfl, hY1, hY⟩ := hY
    simp only [ceqs] at h
    cases h1 : ceq x y with
    | none => rw [h1] at h; cases h
    | some r1 =>
      rw [h1] at h
      dsimp only at h
      cases h2 : ceqs xs ys with
      | none => rw [h2] at h; cases h
      | some r2 =>
        rw [h2] at h
        cases h
        obtain ⟨k, a, b, rfl, rfl, rfl⟩ := ceq_int h1 hX1 hY1
        have hA0 := hA 0
        have hB0 := hB 0
        simp only [Nat.add_zero, List.getElem?_cons_zero] at hA0 hB0
        have pa : (part e A (s * 1)).run P w = .ok (.int k a) w := by
          simp [part, isAgg, Sem.run_bind, run_underlying he, hA0]
        have pb : (part e B (s * 1)).run P w = .ok (.int k b) w := by
          simp [part, isAgg, Sem.run_bind, run_underlying he, hB0]
        have hrest := items_eq he w d A B xs ys X' Y' (s + 1) r2 (fun j => by have := hA (j + 1); rw [show s + 1 + j = s + (j + 1) by omega]; simpa using this)
          (fun j => by have := hB (j + 1); rw [show s + 1 + j = s + (j + 1) by omega]; simpa using this) hX hY h2
        show (Op.eqItems (d + 1) e 1 A B (s :: List.range' (s + 1) xs.length)).run P w = _
        simp only [Op.eqItems, Sem.run_bind, pa, pb, Result.andThen_ok, run_equalIn_int w d e k k0 _ _ he]
        cases hab : (a == b)
        · simp [Sem.run_pure]
        · simpa using hrest
/-- What TyOk asks of an array of numbers. -/
theorem array_eql {P : Program} {t e : TypeId} {n : Nat} {k0 : IntKind} {i : TypeInfo} (ht : P.underlying t = some (.array n e)) (he : P.underlying e = some (.int k0)) (hi : P.info? e = some i) (hs : P.cellsOf e = 1)
    (hq : P.eqGuardType P.depth t = false) {β : Id → CA} {D : Id → Prop} {xs ys : List AV} {X Y : List Value} {r : Bool} (hX : VRs β D xs X) (hY : VRs β D ys Y) (hn : xs.length = n) (hc : ceqs xs ys = some r)
    (x y : Operand) (w : World) {op : BinOp} {ng : Bool} (ho : op = .eql ∧ ng = false ∨ op = .neq ∧ ng = true) :
    (do eqGuard op t x y (.agg X.toArray) (.agg Y.toArray); binOp op t (.agg X.toArray) (.agg Y.toArray) : Sem Value).run P w = .ok (.bool (ng != r)) w := by
  have hE : (Op.equalIn 10000 t (.agg X.toArray) (.agg Y.toArray)).run P w = .ok r w := by
    rw [show (10000 : Nat) = 9998 + 1 + 1 from rfl, run_equalIn_array w 9999 _ _ ht hi, hs, List.range_eq_range', ← hn]
    exact items_eq he w 9998 _ _ xs ys X Y 0 r (fun j => by simp) (fun j => by simp) hX hY hc
  rcases ho with ⟨rfl, rfl⟩ | ⟨rfl, rfl⟩
  · rw [Sem.run_bind, run_eqGuard_agg w _ _ x y _ _ hq]
    simp only [Result.andThen_ok]
    rw [run_eql_struct, hE]
    simp
  · rw [Sem.run_bind, run_eqGuard_agg w _ _ x y _ _ hq]
    simp only [Result.andThen_ok]
    rw [run_neq_struct, hE]
    simp
end Ev
end Go.Proofs.Ytijnjnncgkhabaa
