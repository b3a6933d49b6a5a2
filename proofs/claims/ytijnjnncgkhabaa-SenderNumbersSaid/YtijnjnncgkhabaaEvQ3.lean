/- DERIVED. The evaluator's operations against the model's: texts, lengths, the least and the greatest, slices, places. -/
import Derived.Test.YtijnjnncgkhabaaEvQ2
import Derived.Laws.IdiomStrings
import Derived.Laws.Entries
namespace Go.Proofs.Ytijnjnncgkhabaa
namespace Ev
open Go.RowKit

section
variable {P : Program} {Y : Ty} {β : Id → CA} {D : Id → Prop} {B N : Nat} {W w : World} {s s' : S} {e : Env} {a : Act}

theorem natOf_ok {v : AV} {n : Nat} {V : Value} (h : natOf v = some n) (hv : VR β D v V) : ∃ k, V = .int k n := by
  cases v <;> simp only [natOf] at h <;> try (cases h; done)
  rename_i k x
  cases x <;> simp only at h <;> cases h
  simp only [VR] at hv
  exact ⟨k, hv⟩
theorem bytes_inj : ∀ {x y : List Nat}, (∀ b ∈ x, b < 256) → (∀ b ∈ y, b < 256) → x.map UInt8.ofNat = y.map UInt8.ofNat → x = y
  | [], [], _, _, _ => rfl
  | [], _ :: _, _, _, h => by cases h
  | _ :: _, [], _, _, h => by cases h
  | a :: x, b :: y, hx, hy, h => by
    simp only [List.map_cons, List.cons.injEq] at h
    have ha := hx a (by simp)
    have hb := hy b (by simp)
    have e : a = b := by
      have := congrArg UInt8.toNat h.1
      simp only [UInt8.toNat_ofNat'] at this
      omega
    rw [e, bytes_inj (fun c hc => hx c (by simp [hc])) (fun c hc => hy c (by simp [hc])) h.2]
theorem eqL_ok : ∀ (x y : List Nat), eqL x y = decide (x = y)
  | [], [] => by simp [eqL]
  | [], _ :: _ => by simp [eqL]
  | _ :: _, [] => by simp [eqL]
  | a :: x, b :: y => by
    simp only [eqL]
    cases hb : Nat.beq a b
    · have : a ≠ b := fun e => by subst e; simp at hb
      simp [this]
    · have := Nat.eq_of_beq_eq_true hb
      simp only [eqL_ok x y]
      simp [this]
theorem str_ok (hr : Rel β D B W s.h w) {o : BinOp} {t : TypeId} {x : List Nat} {y v : AV} {X Z : Value} {xo yo : Operand}
    (h : strF o x y s = some (v, s')) (hx : VR β D (.s x) X) (hy : VR β D y Z) : Gives P β D B W s s' v (do eqGuard o t xo yo X Z; binOp o t X Z) w := by
  cases y <;> first | (simp only [strF, M.no] at h; cases h; done) | skip
  rename_i y
  simp only [VR] at hx hy
  obtain ⟨rfl, hx⟩ := hx
  obtain ⟨rfl, hy⟩ := hy
  have hg : ∀ o, (eqGuard o t xo yo (.string ⟨(x.map UInt8.ofNat).toArray⟩) (.string ⟨(y.map UInt8.ofNat).toArray⟩)).run P w = .ok () w := fun o => guard_free (by simp) (by simp) w
  have he : (List.map UInt8.ofNat x == List.map UInt8.ofNat y) = eqL x y := by
    rw [eqL_ok, Bool.eq_iff_iff]
    simp only [beq_iff_eq, decide_eq_true_eq]
    exact ⟨bytes_inj hx hy, fun e => by rw [e]⟩
  cases o <;> first | (simp only [strF, M.no] at h; cases h; done) | skip
  · obtain ⟨hb, h⟩ := ifB_some h
    obtain ⟨rfl, rfl⟩ := pure_some h
    have hle : x.length + y.length ≤ 1048576 := Nat.le_of_ble_eq_true hb
    refine Gives.same hr (V := .string (⟨(x.map UInt8.ofNat).toArray⟩ ++ ⟨(y.map UInt8.ofNat).toArray⟩)) ?_ ?_
    · simp only [VR]
      refine ⟨?_, fun b hb => by rcases List.mem_append.1 hb with h | h; exact hx b h; exact hy b h⟩
      congr 1
      apply ByteArray.ext
      simp [ByteArray.data_append]
    · rw [Sem.run_bind, hg]
      have hsz : ¬ (9223372036854775807 < ((x.length : Int) + (y.length : Int))) := by omega
      simp [binOp, Op.stringOp, ByteArray.size, hsz]
  · obtain ⟨rfl, rfl⟩ := pure_some h
    exact Gives.same hr (V := .bool (eqL x y)) (by simp only [VR]) (by rw [Sem.run_bind, hg]; simp [binOp, Op.stringOp, he])
  · obtain ⟨rfl, rfl⟩ := pure_some h
    exact Gives.same hr (V := .bool (!eqL x y)) (by simp only [VR]) (by rw [Sem.run_bind, hg]; simp [binOp, Op.stringOp]; rw [← he])
theorem bin_ok (hr : Rel β D B W s.h w) {o : BinOp} {t : TypeId} {x y v : AV} {X Z : Value} {xo yo : Operand}
    (h : binF o x y s = some (v, s')) (hx : VR β D x X) (hy : VR β D y Z) : Gives P β D B W s s' v (do eqGuard o t xo yo X Z; binOp o t X Z) w := by
  cases x <;> first | (simp only [binF, M.no] at h; cases h; done) | skip
  · cases y <;> first | (simp only [binF, M.no] at h; cases h; done) | skip
    have hx' := hx
    have hy' := hy
    simp only [VR] at hx' hy'
    subst hx' hy'
    obtain ⟨rfl, V, hV, hrun⟩ := int_ok (P := P) (β := β) (D := D) t h
    exact Gives.same hr hV (by rw [Sem.run_bind, guard_free (by simp) (by simp)]; exact hrun w)
  · exact str_ok hr h hx hy
theorem un_ok (hr : Rel β D B W s.h w) {o : UnOp} {x v : AV} {X : Value} (h : M.ofO (unF o x) M.pure s = some (v, s')) (hx : VR β D x X) : Gives P β D B W s s' v (Op.unary o X) w := by
  obtain ⟨h, rfl⟩ := ofO_pure h
  cases o <;> simp only [unF] at h <;> try (cases h; done)
  · cases x <;> simp only at h <;> cases h
    simp only [VR] at hx
    subst hx
    exact Gives.same hr (by simp only [VR]; rfl) (by simp [Op.unary, Op.intArith, wrap_i]; rw [show Int.sub 0 _ = 0 - _ from rfl, Int.zero_sub])
  · cases x <;> simp only at h <;> cases h
    simp only [VR] at hx
    subst hx
    exact Gives.same hr (by simp only [VR]; rfl) (by simp [Op.unary])
theorem mm_ok (mx : Bool) : ∀ (l : List AV) (L : List Value) (x v : AV) (X : Value), mmF mx x l = some v → VRs β D l L → VR β D x X →
    ∃ V, VR β D v V ∧ (L.foldlM (if mx then Builtin.max2 else Builtin.min2) X).run P w = .ok V w
  | [], L, x, v, X, h, hl, hx => by
    simp only [VRs] at hl
    subst hl
    simp only [mmF] at h
    cases h
    exact ⟨X, hx, by simp [Sem.run_pure]⟩
  | y :: l, L, x, v, X, h, hl, hx => by
    simp only [VRs] at hl
    obtain ⟨Z, L', rfl, hy, hl⟩ := hl
    cases x <;> simp only [mmF] at h <;> try (cases h; done)
    rename_i k p
    cases y <;> simp only at h <;> try (cases h; done)
    rename_i k' q
    simp only [VR] at hx hy
    subst hx hy
    obtain ⟨V, hV, hrun⟩ := mm_ok mx l L' _ v (.int k (mm2 mx p q)) h hl (by simp only [VR])
    refine ⟨V, hV, ?_⟩
    rw [List.foldlM_cons, Sem.run_bind]
    have e : ((if mx then Builtin.max2 else Builtin.min2) (.int k p) (.int k' q)).run P w = .ok (.int k (mm2 mx p q)) w := by
      cases mx
      · simp only [Bool.false_eq_true, if_false, Builtin.min2, mm2, ile_ok]
        by_cases hpq : p ≤ q
        · simp [hpq]; omega
        · simp [hpq]
      · simp only [if_true, Builtin.max2, mm2, ile_ok]
        by_cases hpq : q ≤ p
        · simp [hpq]; omega
        · simp [hpq]
    rw [e]
    exact hrun
end
end Ev
end Go.Proofs.Ytijnjnncgkhabaa
