/- DERIVED. Rows of operations in order, and the code's forms: what the evaluator gives is what the model does. -/
import Derived.Test.YtijnjnncgkhabaaEvT3
namespace Go.Proofs.Ytijnjnncgkhabaa
namespace Ev
open Go.RowKit

section
variable {P : Program} {Y : Ty} {β : Id → CA} {D : Id → Prop} {B N : Nat} {W w : World} {s s' u : S} {e : Env} {a : Act} {F : Fns}

theorem wanted_ok (he : ER β D N e a) {ops : Array Oper} {o : Oper} {g : Option (Nat × Bool)} (h : cG N ops.toList o.guard = some g) : Region.wanted o (yielded ops a.tmps) = wanted g e := by
  cases hg : o.guard with
  | none =>
    rw [hg] at h
    simp only [cG] at h
    cases h
    simp [Region.wanted, hg, wanted]
  | some jw =>
    rw [hg] at h
    simp only [cG] at h
    obtain ⟨o', ho', h⟩ := bi_some h
    obtain ⟨gd, hgd, h⟩ := bi_some h
    obtain ⟨_, hb, h⟩ := bi_some h
    cases h
    have hlt : gd < N := Nat.le_of_ble_eq_true (guardB_some hb)
    have hV := he.at_ gd
    have hget : a.tmps[gd]? = some (a.tmps.getD gd undef) := by
      have hs : gd < a.tmps.size := Nat.lt_of_lt_of_le hlt he.size
      rw [Array.getD_eq_getD_getElem?, Array.getElem?_eq_getElem hs]
      rfl
    have hy : yielded ops a.tmps jw.1 = match a.tmps.getD gd undef with | .bool b => some b | _ => none := by
      unfold yielded
      have ho2 : ops[jw.1]? = some o' := by simpa using ho'
      rw [ho2]
      simp only [Option.bind_some, hgd]
      rw [hget]
      cases a.tmps.getD gd undef <;> rfl
    obtain ⟨j, want⟩ := jw
    simp only [Region.wanted, hg]
    rw [hy]
    simp only [wanted]
    generalize a.tmps.getD gd undef = V at hV
    cases hq : e gd with
    | b t =>
      rw [hq] at hV
      simp only [VR] at hV
      subst hV
      cases t <;> cases want <;> rfl
    | _ =>
      all_goals
        have hnb : ∀ t, V ≠ .bool t := fun t ht => by
          subst ht
          have := hV.bool
          rw [hq] at this
          cases this
        cases V <;> first | rfl | exact absurd rfl (hnb _)

/-- One operation of a row. -/
theorem ps_ok (hY : TyOk P Y) (hF : FnOk P F) (hr : Rel β D B W s.h w) (he : ER β D N e a) {ops : Array Oper} {i : Nat} {o : Oper} {ps : PS} (ho : ops[i]? = some o) (hc : cS Y N ops.toList o = some ps) {v : AV}
    (h : psV ps F e s = some (v, s')) (hfr : Fresh D s.n.num s'.n.num) {K : Act → World → Prop} {Q : Exit → Act → World → Prop} (hK : Goes β D B W s s' v fun V w' => K (a.put o.dst V) w') : wpOp P ops Q i K a w := by
  simp only [cS] at hc
  obtain ⟨p, hp, hc⟩ := bi_some hc
  obtain ⟨g, hg, hc⟩ := bi_some hc
  obtain ⟨_, hd, hc⟩ := bi_some hc
  cases hc
  unfold wpOp
  simp only [ho]
  rw [wanted_ok he hg]
  simp only [psV] at h
  cases hw : wanted g e <;> rw [hw] at h <;> simp only at h
  · obtain ⟨rfl, rfl⟩ := pure_some h
    simp only [Bool.false_eq_true, if_false]
    exact hK β D w undef (Ext.refl _ _ _) hr VR.und
  · simp only [if_true]
    exact .inl (op_ok hY hF hr he hp h hfr hK)
theorem cS_dst {ops : List Oper} {o : Oper} {ps : PS} (hc : cS Y N ops o = some ps) : dstOk N o.dst = true ∧ ps.d = o.dst := by
  simp only [cS] at hc
  obtain ⟨p, hp, hc⟩ := bi_some hc
  obtain ⟨g, hg, hc⟩ := bi_some hc
  obtain ⟨_, hd, hc⟩ := bi_some hc
  cases hc
  exact ⟨guardB_some hd, rfl⟩

/-- What must follow code. -/
def GoesC (β : Id → CA) (D : Id → Prop) (B N : Nat) (W : World) (s s' : S) (e : Env) (K : Act → World → Prop) : Prop :=
  ∀ β' D' a' w', Ext β D β' D' s.n.num s'.n.num → Rel β' D' B W s'.h w' → ER β' D' N e a' → K a' w'
theorem GoesC.from {s1 s2 s3 : S} {β' : Id → CA} {D' : Id → Prop} {e' : Env} {K : Act → World → Prop} (h : GoesC β D B N W s1 s3 e' K) (hx : Ext β D β' D' s1.n.num s2.n.num) : GoesC β' D' B N W s2 s3 e' K :=
  fun β2 D2 a2 w2 hx2 hr he => h β2 D2 a2 w2 (hx.trans hx2) hr he

/-- The next name never falls. -/
theorem Fresh.left {n n1 n2 : Nat} (h : Fresh D n n2) (h1 : n1 ≤ n2) : Fresh D n n1 := fun id a b => h id a (by omega)
theorem Fresh.right {β' : Id → CA} {D' : Id → Prop} {n n1 n2 : Nat} (h : Fresh D n n2) (hx : Ext β D β' D' n n1) : Fresh D' n1 n2 := fun id a b hd => by
  have := hx.le
  rcases hx.new id hd with h1 | h1
  · exact h id (by omega) b h1
  · omega
end
end Ev
end Go.Proofs.Ytijnjnncgkhabaa
