/- DERIVED. The evaluator's operations against the model's: numbers, equality, lengths. -/
import Derived.Test.YtijnjnncgkhabaaEvP
namespace Go.Proofs.Ytijnjnncgkhabaa
namespace Ev
open Go.RowKit

section
variable {P : Program} {Y : Ty} {β : Id → CA} {D : Id → Prop} {B N : Nat} {W w : World} {s s' : S} {e : Env} {a : Act}

theorem bv_nat (n a : Nat) (h : a < 2 ^ n) : (BitVec.ofInt n (a : Int)).toNat = a := by
  simp [BitVec.toNat_ofInt]
  exact Nat.mod_eq_of_lt h

theorem ofO_pure {o : Option AV} {v : AV} (h : M.ofO o M.pure s = some (v, s')) : o = some v ∧ s' = s := by
  obtain ⟨x, hx, h⟩ := ofO_some h
  obtain ⟨rfl, rfl⟩ := pure_some h
  exact ⟨hx, rfl⟩
theorem int_ok {o : BinOp} {k k' : IntKind} {x y : Int} {v : AV} (t : TypeId) (h : intF o k x k' y s = some (v, s')) : s' = s ∧ ∃ V, VR β D v V ∧ ∀ w, (binOp o t (.int k x) (.int k' y)).run P w = .ok V w := by
  have sh : ∀ (op : BinOp), op = .shl ∨ op = .shr → ∀ v, (if op = .shl then shl k x y else shr k x y) = some v → ∃ V, VR β D v V ∧ ∀ w, (Op.shift op k x k' y).run P w = .ok V w := by
    intro op hop v hv
    cases y with
    | negSucc b => rcases hop with rfl | rfl <;> simp [shl, shr] at hv
    | ofNat b =>
      have hneg : ¬ ((b : Int) < 0) := by omega
      rcases hop with rfl | rfl
      · simp only [if_true, shl] at hv
        cases hv
        refine ⟨_, by simp only [VR]; rfl, fun w => ?_⟩
        simp only [Op.shift, Int.ofNat_eq_natCast, if_neg hneg]
        simp [wrap_i, minN_ok, bts_ok]
      · simp only [reduceCtorEq, if_false, shr] at hv
        cases x with
        | negSucc a => cases hv
        | ofNat a =>
          simp only [Option.some.injEq] at hv
          cases hv
          refine ⟨_, by simp only [VR]; rfl, fun w => ?_⟩
          simp only [Op.shift, Int.ofNat_eq_natCast, if_neg hneg]
          simp [minN_ok, bts_ok]
          have e := Int.ofNat_fdiv a (2 ^ min b k.bits)
          rw [Int.natCast_pow] at e
          exact e.symm
  by_cases h1 : o = .shl
  · subst h1
    have g : M.ofO (shl k x y) M.pure s = some (v, s') := h
    obtain ⟨g2, rfl⟩ := ofO_pure g
    exact ⟨rfl, sh .shl (.inl rfl) v (by simpa using g2)⟩
  by_cases h2 : o = .shr
  · subst h2
    have g : M.ofO (shr k x y) M.pure s = some (v, s') := h
    obtain ⟨g2, rfl⟩ := ofO_pure g
    exact ⟨rfl, sh .shr (.inr rfl) v (by simpa using g2)⟩
  have h' : M.ifB (keq k k') (M.ofO (ari o k x y) M.pure) s = some (v, s') := by cases o <;> first | exact h | exact absurd rfl h1 | exact absurd rfl h2
  obtain ⟨hk, h3⟩ := ifB_some h'
  clear h h'
  obtain ⟨h', rfl⟩ := ofO_pure h3
  clear h3
  obtain rfl := keq_ok hk
  clear hk
  refine ⟨rfl, ?_⟩
  have bits : ∀ (f : Nat → Nat → Nat) (g : BitVec k.bits → BitVec k.bits → BitVec k.bits) (_ : ∀ p q, (g p q).toNat = f p.toNat q.toNat), ∀ a b : Nat, (Nat.blt a (md k) && Nat.blt b (md k)) = true → wrapF k (.ofNat (f a b)) = k.wrap ((g (BitVec.ofInt k.bits (a : Int)) (BitVec.ofInt k.bits (b : Int))).toNat : Int) := by
    intro f g hg a b hb
    simp only [Bool.and_eq_true] at hb
    have ha : a < 2 ^ k.bits := by rw [← md_ok]; exact Nat.le_of_ble_eq_true hb.1
    have hb' : b < 2 ^ k.bits := by rw [← md_ok]; exact Nat.le_of_ble_eq_true hb.2
    rw [wrap_i, hg, bv_nat _ _ ha, bv_nat _ _ hb']
    rfl
  cases o <;> simp only [ari] at h' <;> first
    | (exact absurd rfl h1)
    | (exact absurd rfl h2)
    | (cases h'; done)
    | skip
  · cases h'; exact ⟨_, by simp only [VR]; rfl, fun w => by simp [binOp, Op.intArith, wrap_i]⟩
  · cases h'; exact ⟨_, by simp only [VR]; rfl, fun w => by simp [binOp, Op.intArith, wrap_i]; rfl⟩
  · cases h'; exact ⟨_, by simp only [VR]; rfl, fun w => by simp [binOp, Op.intArith, wrap_i]⟩
  · rw [ieq_ok] at h'
    by_cases hy : y = 0
    · simp [hy] at h'
    · simp [hy] at h'
      cases h'
      exact ⟨_, by simp only [VR]; rfl, fun w => by simp [binOp, Op.intDiv, hy, wrap_i]⟩
  · rw [ieq_ok] at h'
    by_cases hy : y = 0
    · simp [hy] at h'
    · simp [hy] at h'
      cases h'
      exact ⟨_, by simp only [VR]; rfl, fun w => by simp [binOp, Op.intDiv, hy]⟩
  · cases x with
    | negSucc a => cases h'
    | ofNat a => cases y with
      | negSucc b => cases h'
      | ofNat b =>
        simp only at h'
        cases hb : (Nat.blt a (md k) && Nat.blt b (md k)) <;> rw [hb] at h' <;> simp only at h'
        · cases h'
        · cases h'
          refine ⟨_, by simp only [VR]; rfl, fun w => ?_⟩
          rw [bits Nat.land (fun p q => p &&& q) (fun p q => BitVec.toNat_and p q) a b hb]
          simp [binOp, Op.intBits]
  · cases x with
    | negSucc a => cases h'
    | ofNat a => cases y with
      | negSucc b => cases h'
      | ofNat b =>
        simp only at h'
        cases hb : (Nat.blt a (md k) && Nat.blt b (md k)) <;> rw [hb] at h' <;> simp only at h'
        · cases h'
        · cases h'
          refine ⟨_, by simp only [VR]; rfl, fun w => ?_⟩
          rw [bits Nat.lor (fun p q => p ||| q) (fun p q => BitVec.toNat_or p q) a b hb]
          simp [binOp, Op.intBits]
  · cases x with
    | negSucc a => cases h'
    | ofNat a => cases y with
      | negSucc b => cases h'
      | ofNat b =>
        simp only at h'
        cases hb : (Nat.blt a (md k) && Nat.blt b (md k)) <;> rw [hb] at h' <;> simp only at h'
        · cases h'
        · cases h'
          refine ⟨_, by simp only [VR]; rfl, fun w => ?_⟩
          rw [bits Nat.xor (fun p q => p ^^^ q) (fun p q => BitVec.toNat_xor p q) a b hb]
          simp [binOp, Op.intBits]
  all_goals
    cases h'
    refine ⟨_, by simp only [VR]; rfl, fun w => ?_⟩
    simp [binOp, Op.intCmp, ieq_ok, ile_ok]
    try first | rfl | (rw [Bool.eq_iff_iff]; simp; done) | (rw [Bool.eq_iff_iff]; simp; omega)
end
end Ev
end Go.Proofs.Ytijnjnncgkhabaa
