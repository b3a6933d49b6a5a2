/- DERIVED. One operation of whatever kind: what the evaluator gives is what the model does. -/
import Derived.Test.YtijnjnncgkhabaaEvT
namespace Go.Proofs.Ytijnjnncgkhabaa
namespace Ev
open Go.RowKit

section
variable {P : Program} {Y : Ty} {β : Id → CA} {D : Id → Prop} {B N : Nat} {W w : World} {s s' u : S} {e : Env} {a : Act} {F : Fns}

theorem bi_some {α γ : Type} {x : Option α} {f : α → Option γ} {y : γ} (h : x.bind f = some y) : ∃ z, x = some z ∧ f z = some y := by
  cases x with
  | none => cases h
  | some z => exact ⟨z, rfl, h⟩

/-- A builtin's call. -/
theorem exec_builtin {o : Oper} {c : Call} {b : Builtin} (ho : o.op = .call c) (hc : c.callee = .builtin b) : ∃ cs, execOp a.eval o = builtin b c.argTypes o.type cs (c.args.map a.eval) := by
  refine ⟨c.args.map fun | .const _ => true | _ => false, ?_⟩
  unfold execOp
  rw [ho]
  simp only [resolve, hc]
  rfl
theorem wp_builtin {o : Oper} {v : AV} {m : Sem Value} {b : Builtin} {c : Call} (ho : o.op = .call c) (hc : c.callee = .builtin b) (hb : ∀ cs, builtin b c.argTypes o.type cs (c.args.map a.eval) = (do pure (.value (← m)))) (hg : Gives P β D B W s s' v m w) {K : Act → World → Prop} {Q : Exit → Act → World → Prop}
    (hK : Goes β D B W s s' v fun V w' => K (a.put o.dst V) w') : o.wp P a w K Q := by
  obtain ⟨cs, hex⟩ := exec_builtin (a := a) ho hc
  exact wp_gives (by rw [hex]; exact hb cs) hg hK

theorem builtin_ok (hY : TyOk P Y) (hr : Rel β D B W s.h w) (he : ER β D N e a) {o : Oper} {c : Call} {b : Builtin} (ho : o.op = .call c) (hcal : c.callee = .builtin b) {po : PO} (hc : cBuiltin Y b c.argTypes.toList c.args.toList = some po) {v : AV}
    (h : poR po F e s = some (v, s')) (hfr : Fresh D s.n.num s'.n.num) {K : Act → World → Prop} {Q : Exit → Act → World → Prop} (hK : Goes β D B W s s' v fun V w' => K (a.put o.dst V) w') : o.wp P a w K Q := by
  obtain ⟨ts⟩ : ∃ ts, ts = c.argTypes.toList := ⟨_, rfl⟩
  have hts : c.argTypes = c.argTypes.toList.toArray := by simp
  have hxs : c.args = c.args.toList.toArray := by simp
  generalize c.argTypes.toList = ts at hc hts
  generalize c.args.toList = xs at hc hxs
  have hmap : c.args.map a.eval = (xs.map a.eval).toArray := by rw [hxs]; simp
  cases b <;> simp only [cBuiltin] at hc <;> try (cases hc; done)
  · -- append
    match ts, xs, hc with
    | [sT, xT], [sx, x], hc =>
      simp only [cApp] at hc
      obtain ⟨el, hel, hc⟩ := bi_some hc
      obtain ⟨i, hi, hc⟩ := bi_some hc
      obtain ⟨_, hk, hc⟩ := bi_some hc
      obtain ⟨d, hd, hc⟩ := bi_some hc
      obtain ⟨z, hz, hc⟩ := bi_some hc
      obtain ⟨cs, hcs, hc⟩ := bi_some hc
      obtain ⟨s1, hs1, hc⟩ := bi_some hc
      obtain ⟨x1, hx1, hc⟩ := bi_some hc
      have hk' := guardB_some hk
      refine wp_builtin ho hcal (m := Builtin.append_ #[sT, xT] o.type #[a.eval sx, a.eval x]) (fun cs => ?_) ?_ hK
      · rw [hmap, hts]; rfl
      · cases d <;> simp only at hc <;> try (cases hc; done)
        · cases hc; exact apz_ok hY hr hel hi hk' hd hcs h (arg_ok he hs1) (arg_ok he hx1) hfr
        · cases hc; exact app_ok hY hr hel hi hk' hd (.inl rfl) hcs h (arg_ok he hs1) (arg_ok he hx1) hfr
        · cases hc; exact app_ok hY hr hel hi hk' hd (.inr ⟨_, rfl⟩) hcs h (arg_ok he hs1) (arg_ok he hx1) hfr
  · -- cap
    match ts, xs, hc with
    | [t], [x], hc =>
      simp only [cCap] at hc
      obtain ⟨d, hd, hc⟩ := bi_some hc
      obtain ⟨x1, hx1, hc⟩ := bi_some hc
      refine wp_builtin ho hcal (m := Builtin.cap_ #[t] o.type #[a.eval x]) (fun cs => ?_) ?_ hK
      · rw [hmap, hts]; rfl
      · cases d <;> simp only at hc <;> try (cases hc; done)
        · cases hc; exact cap_ok hr (under_ok hY hd) h (arg_ok he hx1)
        · cases hc
          obtain ⟨rfl, rfl⟩ := pure_some h
          exact capA_ok hr (under_ok hY hd)
  · -- clear
    match ts, xs, hc with
    | [t], [x], hc =>
      obtain ⟨el, hel, hc⟩ := bi_some hc
      obtain ⟨cs, hcs, hc⟩ := bi_some hc
      obtain ⟨x1, hx1, hc⟩ := bi_some hc
      cases hc
      refine wp_builtin ho hcal (m := Builtin.clear_ #[t] o.type #[a.eval x]) (fun cs => ?_) ?_ hK
      · rw [hmap, hts]; rfl
      · exact clr_ok hY hr hel hcs h (arg_ok he hx1)
  · -- copy
    match ts, xs, hc with
    | [dT, sT], [d, x], hc =>
      obtain ⟨el, hel, hc⟩ := bi_some hc
      obtain ⟨z, hz, hc⟩ := bi_some hc
      obtain ⟨d1, hd1, hc⟩ := bi_some hc
      obtain ⟨x1, hx1, hc⟩ := bi_some hc
      cases hc
      refine wp_builtin ho hcal (m := Builtin.copy_ #[dT, sT] o.type #[a.eval d, a.eval x]) (fun cs => ?_) ?_ hK
      · rw [hmap, hts]; rfl
      · exact cpy_ok hY hr hel hz h (arg_ok he hd1) (arg_ok he hx1)
  · -- len
    match ts, xs, hc with
    | [t], [x], hc =>
      simp only [cLen] at hc
      obtain ⟨d, hd, hc⟩ := bi_some hc
      obtain ⟨x1, hx1, hc⟩ := bi_some hc
      refine wp_builtin ho hcal (m := Builtin.len_ #[t] o.type #[a.eval x]) (fun cs => ?_) ?_ hK
      · rw [hmap, hts]; rfl
      · cases d <;> simp only at hc <;> try (cases hc; done)
        · cases hc; exact lns_ok hr (under_ok hY hd) h (arg_ok he hx1)
        · cases hc; exact len_ok hr (under_ok hY hd) h (arg_ok he hx1)
        · cases hc
          obtain ⟨rfl, rfl⟩ := pure_some h
          exact lenA_ok hr (under_ok hY hd)
  · -- max
    match xs, hc with
    | x :: l, hc =>
      obtain ⟨x1, hx1, hc⟩ := bi_some hc
      obtain ⟨l1, hl1, hc⟩ := bi_some hc
      cases hc
      obtain ⟨hm, rfl⟩ := ofO_pure h
      obtain ⟨V, hV, hrun⟩ := mm_ok (P := P) (w := w) true _ _ _ _ _ hm (args_ok he hl1) (arg_ok he hx1)
      refine wp_builtin ho hcal (m := Builtin.max_ c.argTypes o.type (c.args.map a.eval)) (fun cs => rfl) (Gives.same hr hV ?_) hK
      rw [hmap]
      simpa [Builtin.max_] using hrun
  · -- min
    match xs, hc with
    | x :: l, hc =>
      obtain ⟨x1, hx1, hc⟩ := bi_some hc
      obtain ⟨l1, hl1, hc⟩ := bi_some hc
      cases hc
      obtain ⟨hm, rfl⟩ := ofO_pure h
      obtain ⟨V, hV, hrun⟩ := mm_ok (P := P) (w := w) false _ _ _ _ _ hm (args_ok he hl1) (arg_ok he hx1)
      refine wp_builtin ho hcal (m := Builtin.min_ c.argTypes o.type (c.args.map a.eval)) (fun cs => rfl) (Gives.same hr hV ?_) hK
      rw [hmap]
      simpa [Builtin.min_] using hrun
end
end Ev
end Go.Proofs.Ytijnjnncgkhabaa
