/- DERIVED. One operation: what the evaluator gives is what the model does, whatever the operation. -/
import Derived.Test.YtijnjnncgkhabaaEvT2
namespace Go.Proofs.Ytijnjnncgkhabaa
namespace Ev
open Go.RowKit

section
variable {P : Program} {Y : Ty} {β : Id → CA} {D : Id → Prop} {B N : Nat} {W w : World} {s s' u : S} {e : Env} {a : Act} {F : Fns}

theorem gives_eq {v : AV} {m m' : Sem Value} (h : m = m') (hg : Gives P β D B W s s' v m w) : Gives P β D B W s s' v m' w := h ▸ hg
theorem op_ok (hY : TyOk P Y) (hF : FnOk P F) (hr : Rel β D B W s.h w) (he : ER β D N e a) {o : Oper} {po : PO} (hc : cOp Y o.op = some po) {v : AV}
    (h : poR po F e s = some (v, s')) (hfr : Fresh D s.n.num s'.n.num) {K : Act → World → Prop} {Q : Exit → Act → World → Prop} (hK : Goes β D B W s s' v fun V w' => K (a.put o.dst V) w') : o.wp P a w K Q := by
  have direct : ∀ {V : Value}, execOp a.eval o = pure (.value V) → v = v → s' = s → VR β D v V → o.wp P a w K Q := fun {V} hex _ hs hv => by
    subst hs
    unfold Oper.wp
    rw [hex]
    exact hK β D w V (Ext.refl _ _ _) hr hv
  cases ho : o.op <;> rw [ho] at hc <;> simp only [cOp] at hc <;> try (cases hc; done)
  · -- move
    obtain ⟨x1, hx1, hc⟩ := bi_some hc
    cases hc
    obtain ⟨rfl, rfl⟩ := pure_some h
    exact direct (by unfold execOp; rw [ho]) rfl rfl (arg_ok he hx1)
  · obtain ⟨x1, hx1, hc⟩ := bi_some hc
    cases hc
    obtain ⟨rfl, rfl⟩ := pure_some h
    exact direct (by unfold execOp; rw [ho]) rfl rfl (arg_ok he hx1)
  · -- pick
    rename_i c x y
    obtain ⟨c1, hc1, hc⟩ := bi_some hc
    obtain ⟨a1, ha1, hc⟩ := bi_some hc
    obtain ⟨b1, hb1, hc⟩ := bi_some hc
    cases hc
    have hg := pick_ok (P := P) hr h (arg_ok he hc1) (arg_ok he ha1) (arg_ok he hb1)
    obtain ⟨β', D', w', V, h1, h2, h3, h4⟩ := hg
    unfold Oper.wp
    have hex : (execOp a.eval o).run P w = .ok (.value V) w' := by
      unfold execOp
      rw [ho]
      simp only [Sem.run_bind] at h4 ⊢
      cases hq : (asBool (a.eval c)).run P w with
      | halt x w2 => rw [hq] at h4; cases h4
      | ok t w2 =>
        rw [hq] at h4
        simp only [Result.andThen_ok, Sem.run_pure] at h4 ⊢
        cases h4
        rfl
    rw [hex]
    exact hK β' D' w' V h1 h2 h3
  · -- alloc
    rename_i t
    obtain ⟨z, hz, hc⟩ := bi_some hc
    obtain ⟨cs, hcs, hc⟩ := bi_some hc
    cases hc
    obtain ⟨i, zv, hi', hz', hzr, hzv, o1, hlen, hYt⟩ := zeroT_ok hY hcs β D
    have hg := new_gives (P := P) hr h hfr hzv o1 t
    refine wp_gives (m := Instr.alloc t true (.tuple #[])) (by unfold execOp; rw [ho]) ?_ hK
    obtain ⟨β', D', w', V, h1, h2, h3, h4⟩ := hg
    exact ⟨β', D', w', V, h1, h2, h3, by simpa [Instr.alloc, hzr] using h4⟩
  · -- box
    rename_i t x
    obtain ⟨z, hz, hc⟩ := bi_some hc
    obtain ⟨x1, hx1, hc⟩ := bi_some hc
    cases hc
    obtain ⟨l, hl, h2⟩ := ofO_some h
    obtain ⟨k1, k2⟩ := (arg_ok he hx1).cells hl
    exact wp_gives (m := Instr.box t (a.eval x)) (by unfold execOp; rw [ho]) (new_gives (P := P) hr h2 hfr k1 k2 t) hK
  · -- build
    rename_i t parts
    have hc' := hc
    simp only [cBuild] at hc'
    obtain ⟨d, hd, hc'⟩ := bi_some hc'
    obtain ⟨cs, hcs, hc'⟩ := bi_some hc'
    have hpo : ∃ cs ps, po = .build cs ps := by
      cases d <;> simp only at hc' <;> try (cases hc'; done)
      · obtain ⟨m, hm, hc'⟩ := bi_some hc'
        obtain ⟨ps, hps, hc'⟩ := bi_some hc'
        cases hc'
        exact ⟨_, _, rfl⟩
      · obtain ⟨pl, hpl, hc'⟩ := bi_some hc'
        obtain ⟨ps, hps, hc'⟩ := bi_some hc'
        cases hc'
        exact ⟨_, _, rfl⟩
    obtain ⟨cs, ps, rfl⟩ := hpo
    exact wp_gives (by unfold execOp; rw [ho]) (build_ok hY hr he hc h) hK
  · -- buildSlice
    have hc' := hc
    simp only [cBsl] at hc'
    obtain ⟨el, hel, hc'⟩ := bi_some hc'
    obtain ⟨m, hm, hc'⟩ := bi_some hc'
    obtain ⟨_, hg, hc'⟩ := bi_some hc'
    obtain ⟨z, hz, hc'⟩ := bi_some hc'
    obtain ⟨cs, hcs, hc'⟩ := bi_some hc'
    obtain ⟨ps, hps, hc'⟩ := bi_some hc'
    cases hc'
    exact wp_gives (by unfold execOp; rw [ho]) (bsl_ok hY hr he hc h hfr) hK
  · -- load
    rename_i t x
    simp only [cLoad] at hc
    obtain ⟨d, hd, hc⟩ := bi_some hc
    obtain ⟨m, hm, hc⟩ := bi_some hc
    obtain ⟨x1, hx1, hc⟩ := bi_some hc
    cases hagg : isAggD d <;> rw [hagg] at hc <;> simp only at hc <;> cases hc
    · exact wp_gives (by unfold execOp; rw [ho]) (ld_ok hY hr hd hagg h (arg_ok he hx1)) hK
    · exact wp_gives (by unfold execOp; rw [ho]) (ldn_ok hY hr hd hagg hm h (arg_ok he hx1)) hK
  · -- store
    rename_i t x y
    obtain ⟨m, hm, hc⟩ := bi_some hc
    obtain ⟨x1, hx1, hc⟩ := bi_some hc
    obtain ⟨y1, hy1, hc⟩ := bi_some hc
    cases hc
    obtain ⟨w', h1, rfl, h3, h4⟩ := st_ok hY hr hm h (arg_ok he hx1) (arg_ok he hy1)
    unfold Oper.wp
    have hex : (execOp a.eval o).run P w = .ok .skip w' := by
      unfold execOp
      rw [ho]
      simp only [Sem.run_bind, h4, Result.andThen_ok, Sem.run_pure]
    rw [hex]
    exact hK β D w' undef (by rw [h3]; exact Ext.refl _ _ _) h1 VR.und
  · -- nilCheck
    rename_i x
    obtain ⟨x1, hx1, hc⟩ := bi_some hc
    cases hc
    obtain ⟨rfl, rfl, hx⟩ := nil_ok hr h (arg_ok he hx1)
    refine direct (V := a.eval x) ?_ rfl rfl (arg_ok he hx1)
    unfold execOp
    rw [ho]
    rcases hx with ⟨ad, hx⟩ | ⟨fn, A, C, hx⟩ <;> simp only [hx]
  · -- binOp
    rename_i op t x y yt
    have hex : execOp a.eval o = (do pure (.value (← (do eqGuard op t x y (a.eval x) (a.eval y); binOp op t (a.eval x) (a.eval y) : Sem Value)))) := by unfold execOp; rw [ho]
    have num : ∀ {x1 y1 : Arg}, cA x = some x1 → cA y = some y1 → binF op (arg x1 e) (arg y1 e) s = some (v, s') → o.wp P a w K Q := fun hx1 hy1 h => wp_gives hex (bin_ok hr h (arg_ok he hx1) (arg_ok he hy1)) hK
    have eqc : ∀ (op' : BinOp) (ng : Bool), op = op' → EqOp op' ng → cEq Y op' ng t x y = some po → o.wp P a w K Q := by
      intro op' ng hop hq hc
      subst hop
      simp only [cEq] at hc
      obtain ⟨d, hd, hc⟩ := bi_some hc
      obtain ⟨x1, hx1, hc⟩ := bi_some hc
      obtain ⟨y1, hy1, hc⟩ := bi_some hc
      cases hn : numD d <;> rw [hn] at hc <;> simp only at hc
      · obtain ⟨kd, hkd, hc⟩ := bi_some hc
        cases hc
        exact wp_gives hex (eq_ok hY hr hq hd hkd h (arg_ok he hx1) (arg_ok he hy1)) hK
      · cases hc
        exact num hx1 hy1 h
    cases op <;> simp only [cBin] at hc <;> first
      | exact eqc .eql false rfl (.inl ⟨rfl, rfl⟩) hc
      | exact eqc .neq true rfl (.inr ⟨rfl, rfl⟩) hc
      | (obtain ⟨x1, hx1, hc⟩ := bi_some hc
         obtain ⟨y1, hy1, hc⟩ := bi_some hc
         cases hc
         exact num hx1 hy1 h)
  · -- unOp
    rename_i op t x
    obtain ⟨x1, hx1, hc⟩ := bi_some hc
    cases hc
    exact wp_gives (by unfold execOp; rw [ho]) (un_ok hr h (arg_ok he hx1)) hK
  · -- convert
    rename_i sT dT x
    simp only [cConv] at hc
    obtain ⟨sd, hsd, hc⟩ := bi_some hc
    obtain ⟨dd, hdd, hc⟩ := bi_some hc
    obtain ⟨x1, hx1, hc⟩ := bi_some hc
    have hs' := under_ok hY hsd
    have hd' := under_ok hY hdd
    have hex : execOp a.eval o = (do pure (.value (← convert sT dT (a.eval x)))) := by unfold execOp; rw [ho]
    cases sd <;> simp only at hc <;> try (cases hc; done)
    · cases dd <;> simp only at hc <;> try (cases hc; done)
      cases hc
      obtain ⟨k', n, hX, hg⟩ := cvi_ok (P := P) hr h (arg_ok he hx1)
      refine wp_gives hex ?_ hK
      obtain ⟨β', D', w', V, h1, h2, h3, h4⟩ := hg
      exact ⟨β', D', w', V, h1, h2, h3, by rw [hX]; simpa [convert, run_underlying hs', run_underlying hd'] using h4⟩
    · cases dd <;> simp only at hc <;> try (cases hc; done)
      · cases hc
        have hx := arg_ok he hx1
        simp only [poR] at h
        cases hq : arg x1 e <;> rw [hq] at h hx <;> first | (simp only [cvsF, M.no] at h; cases h; done) | skip
        obtain ⟨rfl, rfl⟩ := pure_some h
        have hx' := hx
        simp only [VR] at hx'
        refine wp_gives hex (Gives.same hr hx ?_) hK
        rw [hx'.1]
        simp [convert, run_underlying hs', run_underlying hd']
      · obtain ⟨z, hz, hc⟩ := bi_some hc
        obtain ⟨_, hb, hc⟩ := bi_some hc
        cases hc
        obtain rfl := guardB_some hb
        exact wp_gives hex (cvb_ok hr hs' hd' (byteT_ok hY hz) h (arg_ok he hx1) hfr) hK
    · cases dd <;> simp only at hc <;> try (cases hc; done)
      · obtain ⟨z, hz, hc⟩ := bi_some hc
        obtain ⟨_, hb, hc⟩ := bi_some hc
        cases hc
        obtain rfl := guardB_some hb
        exact wp_gives hex (cvt_ok hr hs' hd' (byteT_ok hY hz) h (arg_ok he hx1)) hK
      · obtain ⟨z, hz, hc⟩ := bi_some hc
        obtain ⟨_, hb, hc⟩ := bi_some hc
        obtain ⟨_, hsd2, hc⟩ := bi_some hc
        cases hc
        obtain rfl := guardB_some hb
        obtain rfl : sT = dT := Nat.eq_of_beq_eq_true (guardB_some hsd2)
        exact wp_gives hex (cvm_ok hr hs' hd' (byteT_ok hY hz) h (arg_ok he hx1)) hK
  · -- makeFunc
    rename_i fn first cap
    cases fn <;> simp only [cMkf] at hc <;> try (cases hc; done)
    rename_i g
    obtain ⟨x1, hx1, hc⟩ := bi_some hc
    obtain ⟨y1, hy1, hc⟩ := bi_some hc
    cases hc
    obtain ⟨rfl, rfl⟩ := pure_some h
    obtain ⟨L1, l1, e1⟩ := cAs_ok he hx1
    obtain ⟨L2, l2, e2⟩ := cAs_ok he hy1
    refine wp_gives (m := Instr.makeFunc (.func g) (first.map a.eval) (cap.map a.eval)) (by unfold execOp; rw [ho]) (Gives.same hr (V := .func (.func g) L1.toArray L2.toArray) ?_ ?_) hK
    · simp only [VR]; exact ⟨L1, L2, rfl, l1, l2⟩
    · rw [e1, e2]; rfl
  · -- makeSlice
    rename_i t l c
    simp only [cMks] at hc
    obtain ⟨el, hel, hc⟩ := bi_some hc
    obtain ⟨i, hi, hc⟩ := bi_some hc
    obtain ⟨_, hb, hc⟩ := bi_some hc
    obtain ⟨z, hz, hc⟩ := bi_some hc
    obtain ⟨cs, hcs, hc⟩ := bi_some hc
    obtain ⟨l1, hl1, hc⟩ := bi_some hc
    obtain ⟨c1, hc1, hc⟩ := bi_some hc
    cases hc
    exact wp_gives (by unfold execOp; rw [ho]) (mks_ok hY hr hel hi (guardB_some hb) hcs h (arg_ok he hl1) (arg_ok he hc1) hfr) hK
  · -- slice
    rename_i t x lo hi mx
    simp only [cSlice] at hc
    obtain ⟨d, hd, hc⟩ := bi_some hc
    obtain ⟨x1, hx1, hc⟩ := bi_some hc
    obtain ⟨lo1, hlo1, hc⟩ := bi_some hc
    obtain ⟨hi1, hhi1, hc⟩ := bi_some hc
    obtain ⟨mx1, hmx1, hc⟩ := bi_some hc
    obtain ⟨_, hb, hc⟩ := bi_some hc
    have hm := guardB_some hb
    have hm' : ((argO mx1 e).isNone || (argO hi1 e).isSome) = true := by rw [argO_none.1, argO_none.2]; exact hm
    have hu := under_ok hY hd
    have hex : execOp a.eval o = (do pure (.value (← Instr.sliceAt t (a.eval x) (lo.map a.eval) (hi.map a.eval) (mx.map a.eval)))) := by unfold execOp; rw [ho]
    cases d <;> simp only at hc <;> try (cases hc; done)
    · obtain ⟨_, hn, hc⟩ := bi_some hc
      cases hc
      have hn' := guardB_some hn
      cases mx1 with
      | some q => cases hn'
      | none =>
        have h3 := cO_ok he hmx1
        have h3' : mx.map a.eval = none := h3
        rw [h3'] at hex
        exact wp_gives hex (slt_ok hr hu h (arg_ok he hx1) (cO_ok he hlo1) (cO_ok he hhi1)) hK
    · obtain ⟨z, hz, hc⟩ := bi_some hc
      cases hc
      exact wp_gives hex (sls_ok hY hr hu hz h (arg_ok he hx1) (cO_ok he hlo1) (cO_ok he hhi1) (cO_ok he hmx1) hm') hK
    · obtain ⟨z, hz, hc⟩ := bi_some hc
      cases hc
      exact wp_gives hex (sla_ok hY hr hu hz h (arg_ok he hx1) (cO_ok he hlo1) (cO_ok he hhi1) (cO_ok he hmx1) hm') hK
  · -- fieldAddr
    rename_i t x j
    simp only [cFad] at hc
    obtain ⟨d, hd, hc⟩ := bi_some hc
    obtain ⟨x1, hx1, hc⟩ := bi_some hc
    cases d <;> simp only at hc <;> try (cases hc; done)
    obtain ⟨f, hf, hc⟩ := bi_some hc
    obtain ⟨m, hm, hc⟩ := bi_some hc
    obtain ⟨_, hb, hc⟩ := bi_some hc
    cases hc
    exact wp_gives (by unfold execOp; rw [ho]) (fad_ok hY hr hd hf hm (Nat.le_of_ble_eq_true (guardB_some hb)) h (arg_ok he hx1)) hK
  · -- indexAddr
    rename_i t x ix
    simp only [cIx] at hc
    obtain ⟨d, hd, hc⟩ := bi_some hc
    obtain ⟨x1, hx1, hc⟩ := bi_some hc
    obtain ⟨i1, hi1, hc⟩ := bi_some hc
    cases d <;> simp only at hc <;> try (cases hc; done)
    · obtain ⟨z, hz, hc⟩ := bi_some hc
      cases hc
      exact wp_gives (by unfold execOp; rw [ho]) (ixs_ok hY hr (under_ok hY hd) hz h (arg_ok he hx1) (arg_ok he hi1)) hK
    · obtain ⟨z, hz, hc⟩ := bi_some hc
      cases hc
      exact wp_gives (by unfold execOp; rw [ho]) (ixa_ok hY hr (under_ok hY hd) hz h (arg_ok he hx1) (arg_ok he hi1)) hK
  · -- extract
    rename_i x j
    obtain ⟨x1, hx1, hc⟩ := bi_some hc
    cases hc
    exact wp_gives (by unfold execOp; rw [ho]) (ext_ok hr h (arg_ok he hx1)) hK
  · -- call
    rename_i c
    simp only [cCall] at hc
    cases hcal : c.callee <;> rw [hcal] at hc <;> simp only at hc <;> try (cases hc; done)
    · obtain ⟨f1, hf1, hc⟩ := bi_some hc
      obtain ⟨l1, hl1, hc⟩ := bi_some hc
      cases hc
      exact call_ok hF hr he ho hcal hf1 hl1 h hfr hK
    · exact builtin_ok hY hr he ho hcal hc h hfr hK
end
end Ev
end Go.Proofs.Ytijnjnncgkhabaa
