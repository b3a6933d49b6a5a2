/- DERIVED. One operation: what the evaluator gives is what the model does. -/
import Derived.Test.YtijnjnncgkhabaaEvQ8
namespace Go.Proofs.Ytijnjnncgkhabaa
namespace Ev
open Go.RowKit

section
variable {P : Program} {Y : Ty} {β : Id → CA} {D : Id → Prop} {B N : Nat} {W w : World} {s s' u : S} {e : Env} {a : Act}

/-- A block marked as one whose cells a string may share. -/
theorem HR.mark {h : Heap} (hr : HR β D B h w) {id : Id} {k : Blk} (hk : h id = some k) (hz : k.z.s = true) : ∃ w', (∀ q, (markStringish ⟨(β id).blk, q, none⟩).run P w = .ok () w') ∧ HR β D B h w' ∧ (∀ W, Below B W w → Below B W w') := by
  obtain ⟨hd, c, el, fz, hb, hs, hf, hc, hzk⟩ := hr.live id k hk
  rw [hz] at hf
  simp only [fzok] at hf
  have hpos : c.size < c.size + 1 := Nat.lt_succ_self _
  refine ⟨w.freeze ⟨(β id).blk, c.size, none⟩ 1, fun q => ?_, ?_, ?_⟩
  · simp [markStringish, World.shape?, hb]
  · have hsame : (w.freeze ⟨(β id).blk, c.size, none⟩ 1).heap[(β id).blk]? = some (.cells c el (if fz.1 == fz.2 then (c.size, c.size + 1) else (min fz.1 c.size, max fz.2 (c.size + 1)))) := by
      simp [World.freeze, Array.getElem?_modify, hb]
    have hoth : ∀ i, i ≠ (β id).blk → (w.freeze ⟨(β id).blk, c.size, none⟩ 1).heap[i]? = w.heap[i]? := fun i hi => by
      simp [World.freeze, Array.getElem?_modify]
      intro h; exact absurd h.symm hi
    refine ⟨fun j kk hkk => ?_, hr.inj, hr.old, by simpa [World.freeze] using hr.size⟩
    by_cases hj : (β j).blk = (β id).blk
    · obtain rfl : j = id := hr.inj j id (by rw [hkk]; simp) (by rw [hk]; simp) hj
      obtain rfl : kk = k := by rw [hk] at hkk; cases hkk; rfl
      refine ⟨hd, c, el, _, hsame, hs, ?_, hc, hzk⟩
      rw [hz]
      simp only [fzok]
      by_cases he : fz.1 = fz.2
      · simp [he]
      · simp only [beq_iff_eq, he, if_false]
        have := hf.resolve_left he
        right
        omega
    · obtain ⟨g1, g2⟩ := hr.live j kk hkk
      refine ⟨g1, ?_⟩
      rw [hoth _ hj]
      exact g2
  · intro W hW
    have hB := hr.old id hd
    refine hW.trans ⟨rfl, rfl, rfl, by simp [World.freeze], fun i hi => ?_⟩
    simp [World.freeze, Array.getElem?_modify]
    intro h; omega
theorem cvm_ok (hr : Rel β D B W s.h w) {t e1 el : TypeId} (hs : P.underlying t = some (.slice e1)) (hd : P.underlying t = some (.slice el)) (he : P.underlying el = some (.int .u8)) {x v : AV} {X : Value}
    (h : cvmF x s = some (v, s')) (hX : VR β D x X) : Gives P β D B W s s' v (convert t t X) w := by
  have key : ∀ {id : Id} {q len cap : Nat} {y : AV}, M.bind (M.shared id) (fun z => M.ifB z.s (M.pure y)) s = some (v, s') → VR β D y (.slice (some ⟨(β id).blk, q, none⟩) len cap) → Gives P β D B W s s' v (convert t t (.slice (some ⟨(β id).blk, q, none⟩) len cap)) w := by
    intro id q len cap y h hy
    obtain ⟨z, u, h1, h2⟩ := bind_some h
    obtain ⟨hz, h3⟩ := ifB_some h2
    obtain ⟨rfl, rfl⟩ := pure_some h3
    obtain ⟨g1, g2, k, hk, hkz⟩ := shared_ok h1
    obtain ⟨w', m1, m2, m3⟩ := hr.hr.mark (P := P) hk (by rw [hkz]; exact hz)
    refine ⟨β, D, w', _, by rw [g2]; exact Ext.refl _ _ _, ⟨by rw [g1]; exact m2, m3 W hr.bel⟩, hy, ?_⟩
    simp [convert, run_underlying hd, run_underlying he, m1]
  cases x <;> first | (simp only [cvmF, M.no] at h; cases h; done) | skip
  · have hX' := hX
    simp only [VR] at hX'
    obtain ⟨_, rfl⟩ := hX'
    exact key h hX
  · have hX' := hX
    simp only [VR] at hX'
    obtain ⟨_, _, q, cap, rfl, _⟩ := hX'
    exact key h hX

/-- What is known of the functions: called, they give what the evaluator gives. -/
def FnOk (P : Program) (F : Fns) : Prop := ∀ f l s v s', F.fn f l s = some (v, s') → ∀ β D B W w L, VRs β D l L → Rel β D B W s.h w → Fresh D s.n.num s'.n.num →
  (callFunc f L.toArray).run P w = .ok (.enter f L.toArray) w ∧
    Calls P f L.toArray w fun e w' => ∃ β' D' V, e = .returned V ∧ Ext β D β' D' s.n.num s'.n.num ∧ Rel β' D' B W s'.h w' ∧ VR β' D' v V

/-- What must follow an operation. -/
def Goes (β : Id → CA) (D : Id → Prop) (B : Nat) (W : World) (s s' : S) (v : AV) (K : Value → World → Prop) : Prop :=
  ∀ β' D' w' V, Ext β D β' D' s.n.num s'.n.num → Rel β' D' B W s'.h w' → VR β' D' v V → K V w'

theorem wp_gives {o : Oper} {v : AV} {m : Sem Value} (hex : execOp a.eval o = (do pure (.value (← m)))) (hg : Gives P β D B W s s' v m w) {K : Act → World → Prop} {Q : Exit → Act → World → Prop} (hK : Goes β D B W s s' v fun V w' => K (a.put o.dst V) w') : o.wp P a w K Q := by
  obtain ⟨β', D', w', V, h1, h2, h3, h4⟩ := hg
  unfold Oper.wp
  rw [hex, Sem.run_bind, h4]
  exact hK β' D' w' V h1 h2 h3
theorem cAs_ok (he : ER β D N e a) {xs : Array Operand} {ys : List Arg} (h : cAs xs.toList = some ys) : ∃ L : List Value, VRs β D (args ys e) L ∧ xs.map a.eval = L.toArray :=
  ⟨xs.toList.map a.eval, args_ok he h, by rw [← Array.toList_map]⟩
theorem cO_ok (he : ER β D N e a) {x : Option Operand} {y : Option Arg} (h : cO x = some y) : VO β D (argO y e) (x.map a.eval) := by
  cases x with
  | none => simp only [cO] at h; cases h; rfl
  | some x =>
    simp only [cO, Option.bind_eq_some_iff] at h
    obtain ⟨b, hb, h⟩ := h
    cases h
    exact ⟨_, rfl, arg_ok he hb⟩
theorem argO_none {x : Option Arg} : (argO x e).isNone = x.isNone ∧ (argO x e).isSome = x.isSome := by cases x <;> exact ⟨rfl, rfl⟩

theorem call_ok {F : Fns} (hF : FnOk P F) (hr : Rel β D B W s.h w) (he : ER β D N e a) {o : Oper} {c : Call} {f : Operand} (ho : o.op = .call c) (hf : c.callee = .value f) {af : Arg} {al : List Arg} (haf : cA f = some af) (hal : cAs c.args.toList = some al) {v : AV}
    (h : callF F (arg af e) (args al e) s = some (v, s')) (hfr : Fresh D s.n.num s'.n.num) {K : Act → World → Prop} {Q : Exit → Act → World → Prop} (hK : Goes β D B W s s' v fun V w' => K (a.put o.dst V) w') : o.wp P a w K Q := by
  have hfv := arg_ok he haf
  obtain ⟨L, hL, hLe⟩ := cAs_ok he hal
  cases hq : arg af e <;> rw [hq] at h hfv <;> first | (simp only [callF, M.no] at h; cases h; done) | skip
  rename_i fn first cap
  simp only [VR] at hfv
  obtain ⟨A, C, hev, hA, hC⟩ := hfv
  obtain ⟨h1, h2⟩ := hF fn _ s v s' h β D B W w (A ++ (L ++ C)) (hA.append (hL.append hC)) hr hfr
  have hargs : A.toArray ++ L.toArray ++ C.toArray = (A ++ (L ++ C)).toArray := by simp
  unfold Oper.wp
  have hex : (execOp a.eval o).run P w = .ok (.enter fn (A ++ (L ++ C)).toArray) w := by
    unfold execOp
    rw [ho]
    simp only [resolve, hf, hev, hLe, Deferred.ofValue, Sem.run_bind, Sem.run_pure, Result.andThen_ok, invoke]
    rw [hargs]
    exact h1
  rw [hex]
  exact h2.mono fun en w' ⟨β', D', V, hen, g1, g2, g3⟩ => by subst hen; exact hK β' D' w' V g1 g2 g3
end
end Ev
end Go.Proofs.Ytijnjnncgkhabaa
