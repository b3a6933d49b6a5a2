/- DERIVED. The evaluator's operations against the model's: equality, texts, lengths, the least and the greatest. -/
import Derived.LaidEql
import Derived.Laws.Cover3
import Derived.Laws.IdiomStrings
import Derived.Laws.Entries
import Derived.Laws.Tables
import Derived.Laws.MakeOwn
import Derived.Great.BuildSlice
import Derived.Test.YthknbcbkibbncaaGreatFa8
set_option linter.all false
namespace Go.Proofs.YthknbcbkibbncaaGreat
namespace Ev
open Go.RowKit

section
variable {P : Program} {Y : Ty} {β : Id → CA} {D : Id → Prop} {B N : Nat} {W w : World} {s s' : S} {e : Env} {a : Act}

/-- 'does an equality of this kind hold', as the two words say it -/
def EqOp (o : BinOp) (ng : Bool) : Prop := o = .eql ∧ ng = false ∨ o = .neq ∧ ng = true

theorem guard_free {o : BinOp} {t : TypeId} {x y : Operand} {X Z : Value} (h1 : X ≠ .nilIface) (h2 : ∀ c, X ≠ .agg c) (w : World) : (eqGuard o t x y X Z).run P w = .ok () w := by
  cases o <;> simp only [eqGuard] <;> try rfl
  all_goals
    cases X <;> first | (exact absurd rfl h1) | (exact absurd rfl (h2 _)) | skip
    all_goals (cases Z <;> simp)
theorem eq_of_run {o : BinOp} {ng r : Bool} (ho : EqOp o ng) {t : TypeId} {x y : Operand} {X Z : Value} (h1 : X ≠ .nilIface) (h2 : ∀ c, X ≠ .agg c)
    (he : binOp .eql t X Z = (do pure (.bool (← Op.equal t X Z)))) (hn : binOp .neq t X Z = (do pure (.bool (!(← Op.equal t X Z))))) (h : (Op.equal t X Z).run P w = .ok r w) :
    (do eqGuard o t x y X Z; binOp o t X Z : Sem Value).run P w = .ok (.bool (ng != r)) w := by
  rw [Sem.run_bind, guard_free h1 h2]
  simp only [Result.andThen_ok]
  rcases ho with ⟨rfl, rfl⟩ | ⟨rfl, rfl⟩
  · rw [he, Sem.run_bind, h]; simp
  · rw [hn, Sem.run_bind, h]; simp

/-- The same memory. -/
def Same (s s' : S) : Prop := s'.h = s.h ∧ s'.n = s.n
theorem Same.gives (h : Same s s') (hr : Rel β D B W s.h w) {v : AV} {V : Value} (hv : VR β D v V) {m : Sem Value} (hm : m.run P w = .ok V w) : Gives P β D B W s s' v m w :=
  ⟨β, D, w, V, by rw [h.2]; exact Ext.refl _ _ _, ⟨by rw [h.1]; exact hr.hr, hr.bel⟩, hv, hm⟩

theorem eqd {t : TypeId} {X Z : Value} {r : Bool} (h : ∀ d, (Op.equalIn (d + 1) t X Z).run P w = .ok r w) : (Op.equal t X Z).run P w = .ok r w := h 9999

theorem eqP_ok (hr : HR β D B s.h w) {i j : Id} {p q : Nat} {r : Bool} (h : eqP i p j q s = some (r, s')) :
    Same s s' ∧ (sameAddr ⟨(β i).blk, (β i).base + p, none⟩ ⟨(β j).blk, (β j).base + q, none⟩).run P w = .ok r w := by
  unfold eqP at h
  cases hb : Nat.beq i.num j.num <;> rw [hb] at h <;> simp only at h
  · obtain ⟨z, u, h1, h⟩ := bind_some h
    obtain ⟨z', u', h2, h⟩ := bind_some h
    obtain ⟨hz, h⟩ := ifB_some h
    obtain ⟨rfl, rfl⟩ := pure_some h
    obtain ⟨a1, a2, k, hk, rfl, hm1⟩ := shared_ok h1
    obtain ⟨b1, b2, k', hk', rfl, hm2⟩ := shared_ok h2
    rw [a1] at hk'
    have hz' : k.z.s = false ∧ k'.z.s = false := by simpa using hz
    refine ⟨⟨b1.trans a1, b2.trans a2⟩, ?_⟩
    obtain ⟨_, c, el, fz, g1, g2, g3, _⟩ := hr.cells hk hm1
    obtain ⟨_, c', el', fz', g1', g2', g3', _⟩ := hr.cells hk' hm2
    rw [hz'.1] at g3
    rw [hz'.2] at g3'
    simp only [fzok] at g3 g3'
    subst g3 g3'
    refine run_sameAddr_other w ?_ g1 g1'
    intro he
    have hblk : (β i).blk = (β j).blk := congrArg Addr.block he
    have hij := hr.inj i j (by rw [hk]; simp) (by rw [hk']; simp) hblk
    rw [hij] at hb
    simp at hb
  · obtain rfl := Id.num_inj (Nat.eq_of_beq_eq_true hb)
    obtain ⟨rfl, rfl⟩ := pure_some h
    refine ⟨⟨rfl, rfl⟩, ?_⟩
    simp only [sameAddr]
    by_cases hp : p = q
    · subst hp; simp
    · have e : Nat.beq p q = false := by cases hb2 : Nat.beq p q; rfl; exact absurd (Nat.eq_of_beq_eq_true hb2) hp
      rw [e]
      simp [hp]

theorem eq_ok (hY : TyOk P Y) (hr : Rel β D B W s.h w) {o : BinOp} {ng : Bool} (ho : EqOp o ng) {t : TypeId} {d : TypeDesc} {kd : Nat} (ht : under Y t = some d) (hk : eqD Y t d = some kd) {x y v : AV} {X Z : Value} {xo yo : Operand}
    (h : eqN kd ng x y s = some (v, s')) (hx : VR β D x X) (hy : VR β D y Z) : Gives P β D B W s s' v (do eqGuard o t xo yo X Z; binOp o t X Z) w := by
  obtain ⟨r, u, h, h'⟩ := bind_some h
  obtain ⟨rfl, rfl⟩ := pure_some h'
  have hu := under_ok hY ht
  have fin : ∀ {r : Bool}, Same s s' → X ≠ .nilIface → (∀ c, X ≠ .agg c) → binOp .eql t X Z = (do pure (.bool (← Op.equal t X Z))) → binOp .neq t X Z = (do pure (.bool (!(← Op.equal t X Z)))) → (Op.equal t X Z).run P w = .ok r w →
      Gives P β D B W s s' (.b (ng != r)) (do eqGuard o t xo yo X Z; binOp o t X Z) w := fun hs h1 h2 h3 h4 h5 =>
    hs.gives hr (by simp only [VR]) (eq_of_run ho h1 h2 h3 h4 h5)
  cases d <;> simp only [eqD] at hk <;> try (cases hk; done)
  · -- bool
    cases hk
    simp only [eqK] at h
    cases x <;> first | (simp only [eqB, M.no] at h; cases h; done) | skip
    cases y <;> first | (simp only [eqB, M.no] at h; cases h; done) | skip
    obtain ⟨rfl, rfl⟩ := pure_some h
    simp only [VR] at hx hy
    subst hx hy
    exact fin ⟨rfl, rfl⟩ (by simp) (by simp) rfl rfl (run_equal_bool w t _ _ hu)
  · -- pointer
    rename_i el
    rw [Option.bind_eq_some_iff] at hk
    obtain ⟨m, hm, hk⟩ := hk
    cases m with
    | zero => cases hk
    | succ m =>
    simp only [Option.some.injEq] at hk
    subst hk
    simp only [eqK] at h
    cases x <;> first | (simp only [eqQ, M.no] at h; cases h; done) | skip
    · cases y <;> first | (simp only [eqQ, M.no] at h; cases h; done) | skip
      · obtain ⟨rfl, rfl⟩ := pure_some h
        simp only [VR] at hx hy
        subst hx hy
        exact fin ⟨rfl, rfl⟩ (by simp) (by simp) rfl rfl (eqd fun dd => by simp [Op.equalIn, run_underlying hu])
      · obtain ⟨rfl, rfl⟩ := pure_some h
        simp only [VR] at hx hy
        obtain ⟨_, rfl⟩ := hy
        subst hx
        exact fin ⟨rfl, rfl⟩ (by simp) (by simp) rfl rfl (eqd fun dd => by simp [Op.equalIn, run_underlying hu])
    · cases y <;> first | (simp only [eqQ, M.no] at h; cases h; done) | skip
      · obtain ⟨rfl, rfl⟩ := pure_some h
        simp only [VR] at hx hy
        obtain ⟨_, rfl⟩ := hx
        subst hy
        exact fin ⟨rfl, rfl⟩ (by simp) (by simp) rfl rfl (eqd fun dd => by simp [Op.equalIn, run_underlying hu])
      · simp only [VR] at hx hy
        obtain ⟨_, rfl⟩ := hx
        obtain ⟨_, rfl⟩ := hy
        obtain ⟨hs, hrun⟩ := eqP_ok (P := P) hr.hr h
        refine fin hs (by simp) (by simp) rfl rfl (eqd fun dd => ?_)
        simp [Op.equalIn, run_underlying hu, size_ok hY hm, hrun]
  · -- slice
    rename_i el
    cases hk
    simp only [eqK] at h
    have nil2 : ∀ (p : Option Addr) (l c : Nat), (Op.equal t (.slice p l c) (.slice none 0 0)).run P w = .ok p.isNone w := fun p l c => run_equal_slice_nil w t el p l c hu
    have nil1 : ∀ (p : Option Addr) (l c : Nat), (Op.equal t (.slice none 0 0) (.slice p l c)).run P w = .ok p.isNone w := fun p l c => by
      refine eqd fun dd => ?_
      simp [Op.equalIn, run_underlying hu]
    cases x <;> first | (simp only [eqS, M.no] at h; cases h; done) | skip
    · cases y <;> first | (simp only [eqS, M.no] at h; cases h; done) | skip
      · obtain ⟨rfl, rfl⟩ := pure_some h
        simp only [VR] at hx hy
        subst hx hy
        exact fin ⟨rfl, rfl⟩ (by simp) (by simp) rfl rfl (nil2 _ _ _)
      · obtain ⟨rfl, rfl⟩ := pure_some h
        simp only [VR] at hx hy
        obtain ⟨_, rfl⟩ := hy
        subst hx
        exact fin ⟨rfl, rfl⟩ (by simp) (by simp) rfl rfl (nil1 _ _ _)
      · obtain ⟨rfl, rfl⟩ := pure_some h
        simp only [VR] at hx hy
        obtain ⟨_, _, q, cap, rfl, _⟩ := hy
        subst hx
        exact fin ⟨rfl, rfl⟩ (by simp) (by simp) rfl rfl (nil1 _ _ _)
    · cases y <;> first | (simp only [eqS, M.no] at h; cases h; done) | skip
      obtain ⟨rfl, rfl⟩ := pure_some h
      simp only [VR] at hx hy
      obtain ⟨_, rfl⟩ := hx
      subst hy
      exact fin ⟨rfl, rfl⟩ (by simp) (by simp) rfl rfl (nil2 _ _ _)
    · cases y <;> first | (simp only [eqS, M.no] at h; cases h; done) | skip
      obtain ⟨rfl, rfl⟩ := pure_some h
      simp only [VR] at hx hy
      obtain ⟨_, _, q, cap, rfl, _⟩ := hx
      subst hy
      exact fin ⟨rfl, rfl⟩ (by simp) (by simp) rfl rfl (nil2 _ _ _)
  · -- an array
    rw [Option.bind_eq_some_iff] at hk
    obtain ⟨_, hq, hk⟩ := hk
    rw [Option.bind_eq_some_iff] at hk
    obtain ⟨m, hm, hk⟩ := hk
    cases hk
    have hq' : Y.q t = true := by cases hb : Y.q t <;> simp [guardB, hb] at hq ⊢
    simp only [eqK] at h
    cases x <;> first | (simp only [eqG, M.no] at h; cases h; done) | skip
    cases y <;> first | (simp only [eqG, M.no] at h; cases h; done) | skip
    rename_i xs ys h0
    have hl : xs.length = m := by
      cases hb : Nat.beq xs.length m with
      | true => exact Nat.eq_of_beq_eq_true hb
      | false => simp only [eqG, hb, M.no] at h; cases h
    subst hl
    simp only [eqG, Nat.beq_refl] at h
    obtain ⟨r', hr', h⟩ := ofO_some h
    obtain ⟨rfl, rfl⟩ := pure_some h
    simp only [VR] at hx hy
    obtain ⟨C, rfl, hC, _⟩ := hx
    obtain ⟨C', rfl, hC', _⟩ := hy
    exact Same.gives ⟨rfl, rfl⟩ hr (by simp only [VR]) (hY.q t hq' o ng ho β D _ _ _ _ r hC hC' hm hr' xo yo w)
  · -- a struct
    rw [Option.bind_eq_some_iff] at hk
    obtain ⟨_, hq, hk⟩ := hk
    rw [Option.bind_eq_some_iff] at hk
    obtain ⟨m, hm, hk⟩ := hk
    cases hk
    have hq' : Y.q t = true := by cases hb : Y.q t <;> simp [guardB, hb] at hq ⊢
    simp only [eqK] at h
    cases x <;> first | (simp only [eqG, M.no] at h; cases h; done) | skip
    cases y <;> first | (simp only [eqG, M.no] at h; cases h; done) | skip
    rename_i xs ys h0
    have hl : xs.length = m := by
      cases hb : Nat.beq xs.length m with
      | true => exact Nat.eq_of_beq_eq_true hb
      | false => simp only [eqG, hb, M.no] at h; cases h
    subst hl
    simp only [eqG, Nat.beq_refl] at h
    obtain ⟨r', hr', h⟩ := ofO_some h
    obtain ⟨rfl, rfl⟩ := pure_some h
    simp only [VR] at hx hy
    obtain ⟨C, rfl, hC, _⟩ := hx
    obtain ⟨C', rfl, hC', _⟩ := hy
    exact Same.gives ⟨rfl, rfl⟩ hr (by simp only [VR]) (hY.q t hq' o ng ho β D _ _ _ _ r hC hC' hm hr' xo yo w)
  · -- a function
    cases hk
    simp only [eqK] at h
    cases x <;> first | (simp only [eqF, M.no] at h; cases h; done) | skip
    · cases y <;> first | (simp only [eqF, M.no] at h; cases h; done) | skip
      · obtain ⟨rfl, rfl⟩ := pure_some h
        simp only [VR] at hx hy
        subst hx hy
        exact fin ⟨rfl, rfl⟩ (by simp) (by simp) rfl rfl (eqd fun dd => by simp [Op.equalIn, run_underlying hu])
      · obtain ⟨rfl, rfl⟩ := pure_some h
        simp only [VR] at hx hy
        obtain ⟨_, _, rfl, _⟩ := hy
        subst hx
        exact fin ⟨rfl, rfl⟩ (by simp) (by simp) rfl rfl (eqd fun dd => by simp [Op.equalIn, run_underlying hu])
    · cases y <;> first | (simp only [eqF, M.no] at h; cases h; done) | skip
      obtain ⟨rfl, rfl⟩ := pure_some h
      simp only [VR] at hx hy
      obtain ⟨_, _, rfl, _⟩ := hx
      subst hy
      exact fin ⟨rfl, rfl⟩ (by simp) (by simp) rfl rfl (eqd fun dd => by simp [Op.equalIn, run_underlying hu])
end
end Ev
end Go.Proofs.YthknbcbkibbncaaGreat

/- DERIVED. The evaluator's operations against the model's: texts, lengths, the least and the greatest, slices, places. -/
namespace Go.Proofs.YthknbcbkibbncaaGreat
namespace Ev
open Go.RowKit

section
variable {P : Program} {Y : Ty} {β : Id → CA} {D : Id → Prop} {B N : Nat} {W w : World} {s s' : S} {e : Env} {a : Act}

theorem natOf_ok {v : AV} {n : Nat} {V : Value} (h : natOf v = some n) (hv : VR β D v V) : ∃ k, V = .int k n := by
  cases v <;> simp only [natOf] at h <;> try (cases h; done)
  rename_i k x
  cases x <;> simp only at h <;> cases h
  simp only [VR] at hv
  exact ⟨k, hv⟩
theorem bytes_inj : ∀ {x y : List Nat}, (∀ b ∈ x, b < 256) → (∀ b ∈ y, b < 256) → x.map UInt8.ofNat = y.map UInt8.ofNat → x = y
  | [], [], _, _, _ => rfl
  | [], _ :: _, _, _, h => by cases h
  | _ :: _, [], _, _, h => by cases h
  | a :: x, b :: y, hx, hy, h => by
    simp only [List.map_cons, List.cons.injEq] at h
    have ha := hx a (by simp)
    have hb := hy b (by simp)
    have e : a = b := by
      have := congrArg UInt8.toNat h.1
      simp only [UInt8.toNat_ofNat'] at this
      omega
    rw [e, bytes_inj (fun c hc => hx c (by simp [hc])) (fun c hc => hy c (by simp [hc])) h.2]
theorem eqL_ok : ∀ (x y : List Nat), eqL x y = decide (x = y)
  | [], [] => by simp [eqL]
  | [], _ :: _ => by simp [eqL]
  | _ :: _, [] => by simp [eqL]
  | a :: x, b :: y => by
    simp only [eqL]
    cases hb : Nat.beq a b
    · have : a ≠ b := fun e => by subst e; simp at hb
      simp [this]
    · have := Nat.eq_of_beq_eq_true hb
      simp only [eqL_ok x y]
      simp [this]
theorem str_ok (hr : Rel β D B W s.h w) {o : BinOp} {t : TypeId} {x : List Nat} {y v : AV} {X Z : Value} {xo yo : Operand}
    (h : strF o x y s = some (v, s')) (hx : VR β D (.s x) X) (hy : VR β D y Z) : Gives P β D B W s s' v (do eqGuard o t xo yo X Z; binOp o t X Z) w := by
  cases y <;> first | (simp only [strF, M.no] at h; cases h; done) | skip
  rename_i y
  simp only [VR] at hx hy
  obtain ⟨rfl, hx⟩ := hx
  obtain ⟨rfl, hy⟩ := hy
  have hg : ∀ o, (eqGuard o t xo yo (.string ⟨(x.map UInt8.ofNat).toArray⟩) (.string ⟨(y.map UInt8.ofNat).toArray⟩)).run P w = .ok () w := fun o => guard_free (by simp) (by simp) w
  have he : (List.map UInt8.ofNat x == List.map UInt8.ofNat y) = eqL x y := by
    rw [eqL_ok, Bool.eq_iff_iff]
    simp only [beq_iff_eq, decide_eq_true_eq]
    exact ⟨bytes_inj hx hy, fun e => by rw [e]⟩
  cases o <;> first | (simp only [strF, M.no] at h; cases h; done) | skip
  · obtain ⟨hb, h⟩ := ifB_some h
    obtain ⟨rfl, rfl⟩ := pure_some h
    have hle : x.length + y.length ≤ 1048576 := Nat.le_of_ble_eq_true hb
    refine Gives.same hr (V := .string (⟨(x.map UInt8.ofNat).toArray⟩ ++ ⟨(y.map UInt8.ofNat).toArray⟩)) ?_ ?_
    · simp only [VR]
      refine ⟨?_, fun b hb => by rcases List.mem_append.1 hb with h | h; exact hx b h; exact hy b h⟩
      congr 1
      apply ByteArray.ext
      simp [ByteArray.data_append]
    · rw [Sem.run_bind, hg]
      have hsz : ¬ (9223372036854775807 < ((x.length : Int) + (y.length : Int))) := by omega
      simp [binOp, Op.stringOp, ByteArray.size, hsz]
  · obtain ⟨rfl, rfl⟩ := pure_some h
    exact Gives.same hr (V := .bool (eqL x y)) (by simp only [VR]) (by rw [Sem.run_bind, hg]; simp [binOp, Op.stringOp, he])
  · obtain ⟨rfl, rfl⟩ := pure_some h
    exact Gives.same hr (V := .bool (!eqL x y)) (by simp only [VR]) (by rw [Sem.run_bind, hg]; simp [binOp, Op.stringOp]; rw [← he])
theorem bin_ok (hr : Rel β D B W s.h w) {o : BinOp} {t : TypeId} {x y v : AV} {X Z : Value} {xo yo : Operand}
    (h : binF o x y s = some (v, s')) (hx : VR β D x X) (hy : VR β D y Z) : Gives P β D B W s s' v (do eqGuard o t xo yo X Z; binOp o t X Z) w := by
  cases x <;> first | (simp only [binF, M.no] at h; cases h; done) | skip
  · cases y <;> first | (simp only [binF, M.no] at h; cases h; done) | skip
    have hx' := hx
    have hy' := hy
    simp only [VR] at hx' hy'
    subst hx' hy'
    obtain ⟨rfl, V, hV, hrun⟩ := int_ok (P := P) (β := β) (D := D) t h
    exact Gives.same hr hV (by rw [Sem.run_bind, guard_free (by simp) (by simp)]; exact hrun w)
  · exact str_ok hr h hx hy
theorem un_ok (hr : Rel β D B W s.h w) {o : UnOp} {x v : AV} {X : Value} (h : M.ofO (unF o x) M.pure s = some (v, s')) (hx : VR β D x X) : Gives P β D B W s s' v (Op.unary o X) w := by
  obtain ⟨h, rfl⟩ := ofO_pure h
  cases o <;> simp only [unF] at h <;> try (cases h; done)
  · cases x <;> simp only at h <;> cases h
    simp only [VR] at hx
    subst hx
    exact Gives.same hr (by simp only [VR]; rfl) (by simp [Op.unary, Op.intArith, wrap_i]; rw [show Int.sub 0 _ = 0 - _ from rfl, Int.zero_sub])
  · cases x <;> simp only at h <;> cases h
    simp only [VR] at hx
    subst hx
    exact Gives.same hr (by simp only [VR]; rfl) (by simp [Op.unary])
theorem mm_ok (mx : Bool) : ∀ (l : List AV) (L : List Value) (x v : AV) (X : Value), mmF mx x l = some v → VRs β D l L → VR β D x X →
    ∃ V, VR β D v V ∧ (L.foldlM (if mx then Builtin.max2 else Builtin.min2) X).run P w = .ok V w
  | [], L, x, v, X, h, hl, hx => by
    simp only [VRs] at hl
    subst hl
    simp only [mmF] at h
    cases h
    exact ⟨X, hx, by simp [Sem.run_pure]⟩
  | y :: l, L, x, v, X, h, hl, hx => by
    simp only [VRs] at hl
    obtain ⟨Z, L', rfl, hy, hl⟩ := hl
    cases x <;> simp only [mmF] at h <;> try (cases h; done)
    rename_i k p
    cases y <;> simp only at h <;> try (cases h; done)
    rename_i k' q
    simp only [VR] at hx hy
    subst hx hy
    obtain ⟨V, hV, hrun⟩ := mm_ok mx l L' _ v (.int k (mm2 mx p q)) h hl (by simp only [VR])
    refine ⟨V, hV, ?_⟩
    rw [List.foldlM_cons, Sem.run_bind]
    have e : ((if mx then Builtin.max2 else Builtin.min2) (.int k p) (.int k' q)).run P w = .ok (.int k (mm2 mx p q)) w := by
      cases mx
      · simp only [Bool.false_eq_true, if_false, Builtin.min2, mm2, ile_ok]
        by_cases hpq : p ≤ q
        · simp [hpq]; omega
        · simp [hpq]
      · simp only [if_true, Builtin.max2, mm2, ile_ok]
        by_cases hpq : q ≤ p
        · simp [hpq]; omega
        · simp [hpq]
    rw [e]
    exact hrun
end
end Ev
end Go.Proofs.YthknbcbkibbncaaGreat

/- DERIVED. The evaluator's operations against the model's: lengths, slices, places, turnings. -/
namespace Go.Proofs.YthknbcbkibbncaaGreat
namespace Ev
open Go.RowKit

section
variable {P : Program} {Y : Ty} {β : Id → CA} {D : Id → Prop} {B N : Nat} {W w : World} {s s' : S} {e : Env} {a : Act}

theorem len_ok (hr : Rel β D B W s.h w) {t ty : TypeId} {el : TypeId} (ht : P.underlying t = some (.slice el)) {x v : AV} {X : Value} (h : M.ofO (lenF x) M.pure s = some (v, s')) (hx : VR β D x X) :
    Gives P β D B W s s' v (Builtin.len_ #[t] ty #[X]) w := by
  have h0 := ofO_pure h
  clear h
  obtain ⟨h, rfl⟩ := h0
  cases x <;> simp only [lenF] at h <;> try (cases h; done)
  all_goals
    cases h
    simp only [VR] at hx
  · subst hx
    exact Gives.same hr (by simp only [VR]; rfl) (by simp [Builtin.len_, run_underlying ht, goInt])
  · obtain ⟨_, rfl⟩ := hx
    exact Gives.same hr (by simp only [VR]; rfl) (by simp [Builtin.len_, run_underlying ht, goInt])
  · obtain ⟨_, _, q, cap, rfl, _⟩ := hx
    exact Gives.same hr (by simp only [VR]; rfl) (by simp [Builtin.len_, run_underlying ht, goInt])
theorem lns_ok (hr : Rel β D B W s.h w) {t ty : TypeId} (ht : P.underlying t = some .string) {x v : AV} {X : Value} (h : M.ofO (lnsF x) M.pure s = some (v, s')) (hx : VR β D x X) :
    Gives P β D B W s s' v (Builtin.len_ #[t] ty #[X]) w := by
  have h0 := ofO_pure h
  clear h
  obtain ⟨h, rfl⟩ := h0
  cases x <;> simp only [lnsF] at h <;> try (cases h; done)
  rename_i x
  cases h
  simp only [VR] at hx
  obtain ⟨rfl, _⟩ := hx
  have hsz : (⟨(x.map UInt8.ofNat).toArray⟩ : ByteArray).size = x.length := by show (List.map UInt8.ofNat x).toArray.size = _; simp
  exact Gives.same hr (by simp only [VR]; rfl) (by simp [Builtin.len_, run_underlying ht, goInt, hsz])
theorem lenA_ok (hr : Rel β D B W s.h w) {t ty el : TypeId} {n : Nat} (ht : P.underlying t = some (.array n el)) {X : Value} : Gives P β D B W s s (.i .i64 (.ofNat n)) (Builtin.len_ #[t] ty #[X]) w :=
  Gives.same hr (by simp only [VR]; rfl) (by simp [Builtin.len_, run_underlying ht, goInt])
theorem cap_ok (hr : Rel β D B W s.h w) {t ty : TypeId} {el : TypeId} (ht : P.underlying t = some (.slice el)) {x v : AV} {X : Value} (h : M.ofO (capF x) M.pure s = some (v, s')) (hx : VR β D x X) :
    Gives P β D B W s s' v (Builtin.cap_ #[t] ty #[X]) w := by
  have h0 := ofO_pure h
  clear h
  obtain ⟨h, rfl⟩ := h0
  cases x <;> simp only [capF] at h <;> try (cases h; done)
  all_goals
    cases h
    simp only [VR] at hx
  · subst hx
    exact Gives.same hr (by simp only [VR]; rfl) (by simp [Builtin.cap_, run_underlying ht, goInt])
  · obtain ⟨_, rfl⟩ := hx
    exact Gives.same hr (by simp only [VR]; rfl) (by simp [Builtin.cap_, run_underlying ht, goInt])
theorem capA_ok (hr : Rel β D B W s.h w) {t ty el : TypeId} {n : Nat} (ht : P.underlying t = some (.array n el)) {X : Value} : Gives P β D B W s s (.i .i64 (.ofNat n)) (Builtin.cap_ #[t] ty #[X]) w :=
  Gives.same hr (by simp only [VR]; rfl) (by simp [Builtin.cap_, run_underlying ht, goInt])

/-- an operand that may be missing -/
def VO (β : Id → CA) (D : Id → Prop) (x : Option AV) (X : Option Value) : Prop := match x with
  | none => X = none
  | some x => ∃ V, X = some V ∧ VR β D x V
theorem bnd_ok {x : Option AV} {X : Option Value} {d top n : Nat} (h : bnd x d top = some n) (hx : VO β D x X) : (x = none ∧ X = none ∧ n = d) ∨ (n ≤ top ∧ x ≠ none ∧ ∃ k, X = some (.int k n)) := by
  cases x with
  | none => simp only [bnd] at h; cases h; exact .inl ⟨rfl, hx, rfl⟩
  | some v =>
    obtain ⟨V, rfl, hv⟩ := hx
    simp only [bnd] at h
    split at h
    · cases h
    · rename_i m hm
      split at h
      · rename_i hb
        cases h
        obtain ⟨k, rfl⟩ := natOf_ok hm hv
        exact .inr ⟨Nat.le_of_ble_eq_true hb, by simp, k, rfl⟩
      · cases h
/-- the greatest that may be -/
def topM (mx : Option AV) (cap m : Nat) : Nat := match mx with
  | none => cap
  | some _ => m
theorem bnds_ok {len k cap : Nat} {lo hi mx : Option AV} {LO HI MX : Option Value} {l h m : Nat} (hb : bnds len k lo hi mx = some (l, h, m)) (hk : k ≤ cap) (h1 : VO β D lo LO) (h2 : VO β D hi HI) (h3 : VO β D mx MX) (hm : (mx.isNone || hi.isSome) = true) (isS : Bool) :
    (Instr.sliceBounds isS len cap LO HI MX).run P w = .ok (l, h, topM mx cap m) w ∧ l ≤ h ∧ h ≤ m ∧ m ≤ k ∧ (mx = none → m = k) := by
  unfold bnds at hb
  split at hb
  · cases hb
  · rename_i m' hm'
    split at hb
    · cases hb
    · rename_i h' hh'
      split at hb
      · cases hb
      · rename_i l' hl'
        split at hb
        · rename_i hle
          cases hb
          simp only [Bool.and_eq_true] at hle
          have le1 : l ≤ h := Nat.le_of_ble_eq_true hle.1
          have le2 : h ≤ m := Nat.le_of_ble_eq_true hle.2
          have sb : ∀ (k : IntKind) (i y : Nat) (code : BoundsCode), i ≤ y → (Instr.sliceBound (.int k (i : Int)) y code).run P w = .ok i w := fun k i y code hi => by
            have := run_sliceBound (P := P) w k (i : Int) y code (by omega) (by omega)
            simpa using this
          rcases bnd_ok hm' h3 with ⟨rfl, rfl, rfl⟩ | ⟨m1, m2, km, rfl⟩
          · refine ⟨?_, le1, le2, Nat.le_refl _, fun _ => rfl⟩
            rcases bnd_ok hh' h2 with ⟨rfl, rfl, rfl⟩ | ⟨n1, n2, kh, rfl⟩
            · rcases bnd_ok hl' h1 with ⟨rfl, rfl, rfl⟩ | ⟨p1, p2, kl, rfl⟩
              · simp [Instr.sliceBounds, topM]
              · simp [Instr.sliceBounds, topM, sb, p1]
            · have hc : h ≤ cap := by omega
              rcases bnd_ok hl' h1 with ⟨rfl, rfl, rfl⟩ | ⟨p1, p2, kl, rfl⟩
              · simp [Instr.sliceBounds, topM, sb, hc]
              · simp [Instr.sliceBounds, topM, sb, hc, p1]
          · cases mx with
            | none => exact absurd rfl m2
            | some mx =>
            refine ⟨?_, le1, le2, m1, fun e => by cases e⟩
            have hmc : m ≤ cap := by omega
            rcases bnd_ok hh' h2 with ⟨rfl, rfl, rfl⟩ | ⟨n1, n2, kh, rfl⟩
            · simp at hm
            · rcases bnd_ok hl' h1 with ⟨rfl, rfl, rfl⟩ | ⟨p1, p2, kl, rfl⟩
              · simp [Instr.sliceBounds, topM, sb, n1, hmc]
              · simp [Instr.sliceBounds, topM, sb, n1, hmc, p1]
        · cases hb
theorem add_at (b o n : Nat) : (⟨b, o, none⟩ : Addr).add n = ⟨b, o + n, none⟩ := by
  unfold Addr.add
  split <;> simp_all
theorem offAt_eq (off l m w : Nat) : offAt off l m w = if m = l then off else off + l * w := by
  unfold offAt
  cases hb : Nat.beq m l
  · have : m ≠ l := fun e => by subst e; simp at hb
    simp [this]
  · simp [Nat.eq_of_beq_eq_true hb]
theorem sls_ok (hY : TyOk P Y) (hr : Rel β D B W s.h w) {t el : TypeId} {z : Nat} (ht : P.underlying t = some (.slice el)) (hz : sizeT Y el = some z) {x v : AV} {X : Value} {lo hi mx : Option AV} {LO HI MX : Option Value}
    (h : M.ofO (slsF z x lo hi mx) M.pure s = some (v, s')) (hx : VR β D x X) (h1 : VO β D lo LO) (h2 : VO β D hi HI) (h3 : VO β D mx MX) (hm : (mx.isNone || hi.isSome) = true) : Gives P β D B W s s' v (Instr.sliceAt t X LO HI MX) w := by
  have h0 := ofO_pure h
  clear h
  obtain ⟨h, rfl⟩ := h0
  have hsz := size_ok hY hz
  cases x <;> simp only [slsF] at h <;> try (cases h; done)
  · -- nil
    split at h
    · cases h
    · rename_i b hb
      obtain ⟨l, hh, m⟩ := b
      cases h
      simp only [VR] at hx
      subst hx
      obtain ⟨g1, g2, g3, g4, g5⟩ := bnds_ok (P := P) (w := w) hb (Nat.le_refl 0) h1 h2 h3 hm true
      obtain rfl : m = 0 := by omega
      obtain rfl : hh = 0 := by omega
      obtain rfl : l = 0 := by omega
      have e : topM mx 0 0 = 0 := by cases mx <;> rfl
      rw [e] at g1
      exact Gives.same hr (V := .slice none 0 0) (by simp only [VR]) (by simp [Instr.sliceAt, run_underlying ht, Instr.slice, g1, hsz])
  · -- closed
    rename_i id off len cap
    split at h
    · rename_i l hh m hb
      cases h
      simp only [VR] at hx
      obtain ⟨hd, rfl⟩ := hx
      obtain ⟨g1, g2, g3, g4, g5⟩ := bnds_ok (P := P) (w := w) hb (Nat.le_refl cap) h1 h2 h3 hm true
      have e : topM mx cap m = m := by
        cases mx
        · exact (g5 rfl).symm
        · rfl
      rw [e] at g1
      refine Gives.same hr (V := .slice (some ⟨(β id).blk, (β id).base + offAt off l m z, none⟩) (hh - l) (m - l)) (by simp only [VR]; first | exact ⟨hd, rfl⟩ | exact ⟨hd, trivial⟩) ?_
      simp [Instr.sliceAt, run_underlying ht, Instr.slice, g1, hsz, offAt_eq]
      by_cases hml : m = l
      · simp [hml]
      · simp [hml, add_at, Nat.add_assoc]
    · cases h
  · -- open
    rename_i id off len k w'
    simp only [VR] at hx
    obtain ⟨hd, hlk, q, cap, rfl, hkc, hq, hlim⟩ := hx
    split at h
    · rename_i l hh m hb
      obtain ⟨g1, g2, g3, g4, g5⟩ := bnds_ok (P := P) (w := w) hb hkc.1 h1 h2 h3 hm true
      split at h
      · rename_i hw
        obtain rfl := Nat.eq_of_beq_eq_true hw
        cases mx with
        | some mx =>
          simp only [topM] at h g1
          split at h
          · rename_i hk1
            cases h
            have hk1' : 1 ≤ k := Nat.le_of_ble_eq_true hk1
            obtain rfl : q = (β id).base + off := hq.resolve_left (by omega)
            refine Gives.same hr (V := .slice (some ⟨(β id).blk, (β id).base + offAt off l m z, none⟩) (hh - l) (m - l)) (by simp only [VR]; first | exact ⟨hd, rfl⟩ | exact ⟨hd, trivial⟩) ?_
            simp [Instr.sliceAt, run_underlying ht, Instr.slice, g1, hsz, offAt_eq]
            by_cases hml : m = l
            · simp [hml]
            · simp [hml, add_at, Nat.add_assoc]
          · cases h
        | none =>
          simp only [topM] at h g1
          cases h
          have hmk := g5 rfl
          refine Gives.same hr (V := .slice (some ⟨(β id).blk, if cap = l then q else q + l * z, none⟩) (hh - l) (cap - l)) ?_ ?_
          · simp only [VR]
            refine ⟨hd, by omega, _, _, rfl, by omega, ?_, ?_⟩
            · by_cases hcl : cap = l
              · exact .inl (by omega)
              · right
                rw [if_neg hcl, hq.resolve_left (by omega)]
                omega
            · have hlc : l ≤ cap := by omega
              have : l * z + (cap - l) * z = cap * z := by rw [← Nat.add_mul]; congr 1; omega
              omega
          · simp [Instr.sliceAt, run_underlying ht, Instr.slice, g1, hsz]
            by_cases hcl : cap = l
            · simp [hcl]
            · simp [hcl, add_at]
      · cases h
    · cases h
theorem sla_ok (hY : TyOk P Y) (hr : Rel β D B W s.h w) {t el : TypeId} {n z : Nat} (ht : P.underlying t = some (.array n el)) (hz : sizeT Y el = some z) {x v : AV} {X : Value} {lo hi mx : Option AV} {LO HI MX : Option Value}
    (h : M.ofO (slaF z n x lo hi mx) M.pure s = some (v, s')) (hx : VR β D x X) (h1 : VO β D lo LO) (h2 : VO β D hi HI) (h3 : VO β D mx MX) (hm : (mx.isNone || hi.isSome) = true) : Gives P β D B W s s' v (Instr.sliceAt t X LO HI MX) w := by
  have h0 := ofO_pure h
  clear h
  obtain ⟨h, rfl⟩ := h0
  have hsz := size_ok hY hz
  cases x <;> simp only [slaF] at h <;> try (cases h; done)
  rename_i id off
  split at h
  · rename_i l hh m hb
    cases h
    simp only [VR] at hx
    obtain ⟨hd, rfl⟩ := hx
    obtain ⟨g1, g2, g3, g4, g5⟩ := bnds_ok (P := P) (w := w) hb (Nat.le_refl n) h1 h2 h3 hm false
    have e : topM mx n m = m := by
      cases mx
      · exact (g5 rfl).symm
      · rfl
    rw [e] at g1
    refine Gives.same hr (V := .slice (some ⟨(β id).blk, (β id).base + offAt off l m z, none⟩) (hh - l) (m - l)) (by simp only [VR]; first | exact ⟨hd, rfl⟩ | exact ⟨hd, trivial⟩) ?_
    simp [Instr.sliceAt, run_underlying ht, Instr.sureAddr, g1, hsz, offAt_eq]
    by_cases hml : m = l
    · simp [hml]
    · simp [hml, add_at, Nat.add_assoc]
  · cases h
theorem slt_ok (hr : Rel β D B W s.h w) {t : TypeId} (ht : P.underlying t = some .string) {x v : AV} {X : Value} {lo hi : Option AV} {LO HI : Option Value}
    (h : M.ofO (sltF x lo hi) M.pure s = some (v, s')) (hx : VR β D x X) (h1 : VO β D lo LO) (h2 : VO β D hi HI) : Gives P β D B W s s' v (Instr.sliceAt t X LO HI none) w := by
  have h0 := ofO_pure h
  clear h
  obtain ⟨h, rfl⟩ := h0
  cases x <;> simp only [sltF] at h <;> try (cases h; done)
  rename_i b
  split at h
  · cases h
  · rename_i l hh m hb
    cases h
    simp only [VR] at hx
    obtain ⟨rfl, hlt⟩ := hx
    obtain ⟨g1, g2, g3, g4, g5⟩ := bnds_ok (P := P) (w := w) hb (Nat.le_refl b.length) h1 h2 (show VO β D none none from rfl) rfl false
    have hsz : (⟨(b.map UInt8.ofNat).toArray⟩ : ByteArray).size = b.length := by show (List.map UInt8.ofNat b).toArray.size = _; simp
    refine Gives.same hr (V := .string ((⟨(b.map UInt8.ofNat).toArray⟩ : ByteArray).extract l hh)) ?_ ?_
    · simp only [VR]
      refine ⟨?_, fun c hc => hlt c (List.mem_of_mem_drop (List.mem_of_mem_take hc))⟩
      congr 1
      apply ByteArray.ext
      simp [ByteArray.data_extract]
    · simp only [Instr.sliceAt, Sem.run_bind, run_underlying ht, Result.andThen_ok, Instr.slice, hsz]
      simp [g1]
theorem ixa_ok (hY : TyOk P Y) (hr : Rel β D B W s.h w) {t el : TypeId} {n z : Nat} (ht : P.underlying t = some (.array n el)) (hz : sizeT Y el = some z) {x i v : AV} {X I : Value}
    (h : ixaF n z x i s = some (v, s')) (hx : VR β D x X) (hi : VR β D i I) : Gives P β D B W s s' v (Instr.indexAt t X I) w := by
  have h0 := ofO_some h
  clear h
  obtain ⟨q, hq, h⟩ := h0
  obtain ⟨k, rfl⟩ := natOf_ok hq hi
  have hsz := size_ok hY hz
  cases x <;> first | (simp only [M.no] at h; cases h; done) | skip
  rename_i id off
  obtain ⟨hlt, h2⟩ := ifB_some h
  obtain ⟨rfl, rfl⟩ := pure_some h2
  simp only [VR] at hx
  obtain ⟨hd, rfl⟩ := hx
  have hlt' : q < n := Nat.le_of_ble_eq_true hlt
  refine Gives.same hr (V := .pointer (some ⟨(β id).blk, (β id).base + (off + q * z), none⟩)) (by simp only [VR]; first | exact ⟨hd, rfl⟩ | exact ⟨hd, trivial⟩) ?_
  have h3 : ¬ n ≤ q := by omega
  simp [Instr.indexAt, asIntOf, run_underlying ht, Instr.sureAddr, h3, hsz, add_at, Nat.add_assoc]
theorem ixs_ok (hY : TyOk P Y) (hr : Rel β D B W s.h w) {t el : TypeId} {z : Nat} (ht : P.underlying t = some (.slice el)) (hz : sizeT Y el = some z) {x i v : AV} {X I : Value}
    (h : ixsF z x i s = some (v, s')) (hx : VR β D x X) (hi : VR β D i I) : Gives P β D B W s s' v (Instr.indexAt t X I) w := by
  have h0 := ofO_some h
  clear h
  obtain ⟨q, hq, h⟩ := h0
  obtain ⟨k, rfl⟩ := natOf_ok hq hi
  have hsz := size_ok hY hz
  cases x <;> first | (simp only [M.no] at h; cases h; done) | skip
  · rename_i id off len cap
    obtain ⟨hlt, h2⟩ := ifB_some h
    obtain ⟨rfl, rfl⟩ := pure_some h2
    simp only [VR] at hx
    obtain ⟨hd, rfl⟩ := hx
    have hlt' : q < len := Nat.le_of_ble_eq_true hlt
    refine Gives.same hr (V := .pointer (some ⟨(β id).blk, (β id).base + (off + q * z), none⟩)) (by simp only [VR]; first | exact ⟨hd, rfl⟩ | exact ⟨hd, trivial⟩) ?_
    have h3 : ¬ len ≤ q := by omega
    simp [Instr.indexAt, asIntOf, run_underlying ht, h3, hsz, add_at, Nat.add_assoc]
  · rename_i id off len kk w'
    obtain ⟨hlt, h2⟩ := ifB_some h
    obtain ⟨rfl, rfl⟩ := pure_some h2
    simp only [VR] at hx
    obtain ⟨hd, hlk, x, cap, rfl, hkc, hxx, hlim⟩ := hx
    have hlt' : q < len := Nat.le_of_ble_eq_true hlt
    obtain rfl : x = (β id).base + off := hxx.resolve_left (by omega)
    refine Gives.same hr (V := .pointer (some ⟨(β id).blk, (β id).base + (off + q * z), none⟩)) (by simp only [VR]; first | exact ⟨hd, rfl⟩ | exact ⟨hd, trivial⟩) ?_
    have h3 : ¬ len ≤ q := by omega
    simp [Instr.indexAt, asIntOf, run_underlying ht, h3, hsz, add_at, Nat.add_assoc]
end
end Ev
end Go.Proofs.YthknbcbkibbncaaGreat

/- DERIVED. The evaluator's operations against the model's: new blocks, what is built, what is turned into another type. -/
namespace Go.Proofs.YthknbcbkibbncaaGreat
namespace Ev
open Go.RowKit

section
variable {P : Program} {Y : Ty} {β : Id → CA} {D : Id → Prop} {B N : Nat} {W w : World} {s s' : S} {e : Env} {a : Act}

/-- Cells that are these values. -/
theorem Cells.ofVRs {l : List AV} {c : Array Value} {o : Nat} {Vs : List Value} (hl : VRs β D l Vs) (h1 : ∀ v ∈ l, v.one = true) (hc : ∀ j V, Vs[j]? = some V → c[o + j]? = some V) (hf : o + l.length ≤ c.size) : Cells β D c o l :=
  ⟨hf, h1, fun j v hv => let ⟨V, a, b⟩ := hl.get j v hv; ⟨V, hc j V a, b⟩⟩
theorem byteT_ok (hY : TyOk P Y) {t : TypeId} (h : byteT Y t = some true) : P.underlying t = some (.int .u8) := by
  unfold byteT at h
  rw [Option.bind_eq_some_iff] at h
  obtain ⟨d, hd, h⟩ := h
  have := under_ok hY hd
  cases d <;> simp [isB] at h
  rename_i k
  cases k <;> simp at h
  exact this
theorem guardB_some {b : Bool} {u : Unit} (h : guardB b = some u) : b = true := by cases b <;> simp [guardB] at h ⊢
theorem zeroT_ok (hY : TyOk P Y) {t : TypeId} {cs : List AV} (h : zeroT Y t = some cs) (β : Id → CA) (D : Id → Prop) :
    ∃ i z, P.info? t = some i ∧ i.zero = some z ∧ (∀ w, (zeroValue t).run P w = .ok z w) ∧ VRs β D cs z.cells.toList ∧ (∀ c ∈ cs, c.one = true) ∧ cs.length = i.size ∧ Y.t t = some i := by
  unfold zeroT at h
  simp only [Option.bind_eq_some_iff] at h
  obtain ⟨i, hi, z, hz, av, hav, l, hl, u, hu, h⟩ := h
  cases h
  have hp := hY.t t i hi
  obtain ⟨h1, h2⟩ := (ofV_ok hav β D).cells hl
  exact ⟨i, z, hp, hz, fun w => by simp [zeroValue, typeInfo, hp, hz], h1, h2, Nat.eq_of_beq_eq_true (guardB_some hu), hi⟩

theorem new_gives (hr : Rel β D B W s.h w) {z : Bool} {l : List AV} {v : AV} (h : newF z l s = some (v, s')) (hf : Fresh D s.n.num s'.n.num) {V : Value} (hl : VRs β D l V.cells.toList) (h1 : ∀ x ∈ l, x.one = true) (t : TypeId) :
    Gives P β D B W s s' v (do pure (.pointer (some (← newVar t V)))) w := by
  obtain ⟨id, u, h2, h3⟩ := bind_some h
  obtain ⟨rfl, rfl⟩ := pure_some h3
  have hid := (new_ok hr.hr h2).1
  refine Gives.fresh hr h2 hf rfl (.inl rfl) V.cells t (0, 0) (fzok_zero _ _) (Cells.ofVRs (o := 0) hl h1 (fun j U hU => by simpa using hU) (by have := hl.length; simp at this; omega)) (fun _ => by have := hl.length; simp at this; omega) (V := .pointer (some ⟨w.heap.size, 0, none⟩)) ?_ ?_
  · simp [newVar, newRow]
  · simp only [VR]
    subst hid
    rw [named_same]
    exact ⟨.inr rfl, rfl⟩

theorem fold_set : ∀ (C : List Value) (k off : Nat) (cells : Array Value), off + k + C.length ≤ cells.size →
    ((C.zipIdx k).foldl (fun cs p => cs.setIfInBounds (off + p.2) p.1) cells).toList = cells.toList.take (off + k) ++ (C ++ cells.toList.drop (off + k + C.length))
  | [], k, off, cells, h => by simp
  | v :: C, k, off, cells, h => by
    simp only [List.zipIdx_cons, List.foldl_cons, List.length_cons] at h ⊢
    rw [fold_set C (k + 1) off _ (by simp; omega)]
    have hlt : off + k < cells.toList.length := by simp; omega
    simp only [Array.toList_setIfInBounds]
    rw [show off + (k + 1) = off + k + 1 by omega, List.take_succ_eq_append_getElem (by simp; omega)]
    simp only [List.take_set_of_le (Nat.le_refl _), List.getElem_set_self]
    rw [List.drop_set_of_lt (by omega), show off + k + 1 + C.length = off + k + (C.length + 1) by omega]
    simp
theorem fill_ok (he : ER β D N e a) {place place' : Nat → Option (Nat × Nat)} (hp : ∀ j om, place' j = some om → place j = some om) :
    ∀ {parts : List (Nat × Operand)} {ps : List Part} {cs l : List AV} {cells : Array Value}, cPs place' parts = some ps → fillL e ps cs = some l → VRs β D cs cells.toList → (∀ x ∈ cs, x.one = true) →
      ∃ out, Instr.fill place cells (parts.map fun p => (p.1, a.eval p.2)) = some out ∧ VRs β D l out.toList ∧ (∀ x ∈ l, x.one = true) ∧ l.length = cs.length
  | [], ps, cs, l, cells, hc, hf, hv, h1 => by
    simp only [cPs] at hc
    cases hc
    simp only [fillL] at hf
    cases hf
    exact ⟨cells, rfl, hv, h1, rfl⟩
  | jx :: parts, ps, cs, l, cells, hc, hf, hv, h1 => by
    simp only [cPs, Option.bind_eq_some_iff] at hc
    obtain ⟨om, hom, x, hx, as, has, hc⟩ := hc
    cases hc
    simp only [fillL] at hf
    split at hf
    · cases hf
    · rename_i lx hlx
      split at hf
      · rename_i hb
        simp only [Bool.and_eq_true] at hb
        have e1 : lx.length = om.2 := Nat.eq_of_beq_eq_true hb.1
        have e2 : om.1 + om.2 ≤ cs.length := Nat.le_of_ble_eq_true hb.2
        obtain ⟨k1, k2⟩ := (arg_ok he hx).cells hlx
        have s1 : (a.eval jx.2).cells.size = om.2 := by have := k1.length; simp at this; omega
        have s2 : cells.size = cs.length := by have := hv.length; simpa using this
        have hset : VRs β D (setL lx cs om.1) (((a.eval jx.2).cells.zipIdx.foldl (fun cs (p : Value × Nat) => cs.setIfInBounds (om.1 + p.2) p.1) cells).toList) := by
          have := fold_set (a.eval jx.2).cells.toList 0 om.1 cells (by simp; omega)
          rw [← Array.foldl_toList, Array.toList_zipIdx, this]
          unfold setL
          have hl := k1.length
          rw [Nat.add_zero, hl]
          exact (hv.take _).append (k1.append (hv.drop _))
        have hone : ∀ y ∈ setL lx cs om.1, y.one = true := by
          intro y hy
          simp only [setL, List.mem_append] at hy
          rcases hy with hy | hy | hy
          · exact h1 y (List.mem_of_mem_take hy)
          · exact k2 y hy
          · exact h1 y (List.mem_of_mem_drop hy)
        have hlen : (setL lx cs om.1).length = cs.length := by simp [setL]; omega
        obtain ⟨out, o1, o2, o3, o4⟩ := fill_ok he hp has hf hset hone
        refine ⟨out, ?_, o2, o3, o4.trans hlen⟩
        simp only [List.map_cons, Instr.fill, hp _ _ hom]
        rw [if_neg (by simp; omega)]
        exact o1
      · cases hf

theorem fldP_ok (hY : TyOk P Y) : ∀ {fs : List Field} {pl : List (Nat × Nat)}, fldP Y fs = some pl → fs.mapM (fun f => (P.info? f.type).map fun i => (f.offset, i.size)) = some pl
  | [], pl, h => by simp only [fldP] at h; cases h; rfl
  | f :: fs, pl, h => by
    simp only [fldP, Option.bind_eq_some_iff] at h
    obtain ⟨m, hm, l, hl, h⟩ := h
    cases h
    have := size_info hY hm
    cases hi : P.info? f.type with
    | none => simp [hi] at this
    | some i =>
      simp [hi] at this
      subst this
      simp [List.mapM_cons, hi, fldP_ok hY hl]
theorem build_ok (hY : TyOk P Y) (hr : Rel β D B W s.h w) (he : ER β D N e a) {t : TypeId} {parts : Array (Nat × Operand)} {cs : List AV} {ps : List Part} {v : AV} (hc : cBuild Y t parts.toList = some (.build cs ps))
    (h : (M.ofO (fillL e ps cs) fun l => M.pure (.ag l)) s = some (v, s')) : Gives P β D B W s s' v (Instr.build t (parts.map fun (i, x) => (i, a.eval x))) w := by
  obtain ⟨l, hl, h2⟩ := ofO_some h
  obtain ⟨rfl, rfl⟩ := pure_some h2
  simp only [cBuild, Option.bind_eq_some_iff] at hc
  obtain ⟨d, hd, cs', hcs, hc⟩ := hc
  obtain ⟨i, z, hi, hz, hzr, hzv, h1, hlen, hYt⟩ := zeroT_ok hY hcs β D
  have hu := under_ok hY hd
  have hparts : (parts.map fun (p : Nat × Operand) => (p.1, a.eval p.2)).toList = parts.toList.map fun p => (p.1, a.eval p.2) := by simp
  have fin : ∀ out : Array Value, P.built t (parts.map fun (p : Nat × Operand) => (p.1, a.eval p.2)).toList = some out → VRs β D l out.toList → (∀ x ∈ l, x.one = true) → Gives P β D B W s' s' (.ag l) (Instr.build t (parts.map fun (i, x) => (i, a.eval x))) w := fun out hb hv ho =>
    Gives.same hr (V := .agg out) (by simp only [VR]; exact ⟨out.toList, by simp, hv, ho⟩) (run_build w t _ out hb)
  cases d <;> try (cases hc; done)
  · -- an array
    rename_i n el
    simp only [Option.bind_eq_some_iff] at hc
    obtain ⟨m, hm, ps', hps, hc⟩ := hc
    cases hc
    obtain ⟨out, o1, o2, o3, o4⟩ := fill_ok (place := fun i => some (i * m, m)) he (fun j om h => h) hps hl hzv h1
    refine fin out ?_ o2 o3
    have hse := size_info hY hm
    cases hie : P.info? el with
    | none => simp [hie] at hse
    | some ie =>
      simp [hie] at hse
      subst hse
      unfold Program.built
      rw [hi, hu]
      simp only [hz, hie, hparts]
      exact o1
  · -- a struct
    rename_i fs
    simp only [Option.bind_eq_some_iff] at hc
    obtain ⟨pl, hpl, ps', hps, hc⟩ := hc
    cases hc
    obtain ⟨out, o1, o2, o3, o4⟩ := fill_ok (place := fun j => pl.toArray[j]?) he (fun j om h => by simpa using h) hps hl hzv h1
    refine fin out ?_ o2 o3
    unfold Program.built
    rw [hi, hu]
    simp only [hz, fldP_ok hY hpl, hparts]
    exact o1

theorem repL_length (l : List AV) : ∀ n, (repL l n).length = n * l.length
  | 0 => by simp [repL]
  | n + 1 => by simp [repL, repL_length l n, Nat.add_mul, Nat.add_comm]
theorem repL_get (l : List AV) : ∀ (n j : Nat), j < n * l.length → (repL l n)[j]? = l[j % l.length]?
  | 0, j, h => by simp at h
  | n + 1, j, h => by
    simp only [repL]
    by_cases hj : j < l.length
    · rw [List.getElem?_append_left hj, Nat.mod_eq_of_lt hj]
    · rw [List.getElem?_append_right (by omega), repL_get l n _ (by rw [Nat.add_mul] at h; omega)]
      congr 1
      rw [Nat.mod_eq_sub_mod (a := j) (by omega)]
theorem repL_one {l : List AV} (h : ∀ x ∈ l, x.one = true) : ∀ n, ∀ x ∈ repL l n, x.one = true
  | 0, x, hx => by simp [repL] at hx
  | n + 1, x, hx => by
    simp only [repL, List.mem_append] at hx
    rcases hx with hx | hx
    · exact h x hx
    · exact repL_one h n x hx
theorem made_vr {cs : List AV} {z : Array Value} (h : VRs β D cs z.toList) (n : Nat) : VRs β D (repL cs n) (madeCells z (n * cs.length)).toList := by
  have hz : z.size = cs.length := by have := h.length; simpa using this
  refine VRs.of ?_ fun j x V hx hV => ?_
  · simp [size_madeCells, repL_length]
  · have hj : j < n * cs.length := by
      rcases Nat.lt_or_ge j (n * cs.length) with h' | h'
      · exact h'
      · rw [List.getElem?_eq_none (by rw [repL_length]; exact h')] at hx; cases hx
    rw [repL_get cs n j hj] at hx
    obtain ⟨U, hU, hv⟩ := h.get _ x hx
    have hpos : 0 < cs.length := by
      rcases Nat.eq_zero_or_pos cs.length with h0 | h0
      · rw [h0] at hj; simp at hj
      · exact h0
    have hm : j % cs.length < z.size := by rw [hz]; exact Nat.mod_lt _ hpos
    simp [madeCells, hj, hz] at hV
    rw [hz] at hm
    simp at hU
    have e : z[j % cs.length]! = U := by
      rw [getElem!_def, hU]
    rw [e] at hV
    rw [← hV]
    exact hv
theorem bsl_ok (hY : TyOk P Y) (hr : Rel β D B W s.h w) (he : ER β D N e a) {t : TypeId} {len : Nat} {parts : Array (Nat × Operand)} {z : Bool} {cs : List AV} {len' : Nat} {ps : List Part} {v : AV} (hc : cBsl Y t len parts.toList = some (.bsl z cs len' ps))
    (h : (M.ofO (fillL e ps cs) fun l => bslF z len' l) s = some (v, s')) (hf : Fresh D s.n.num s'.n.num) : Gives P β D B W s s' v (Instr.buildSlice t len (parts.map fun (i, x) => (i, a.eval x))) w := by
  obtain ⟨l, hl, h2⟩ := ofO_some h
  obtain ⟨id, u, h3, h4⟩ := bind_some h2
  obtain ⟨rfl, rfl⟩ := pure_some h4
  simp only [cBsl, Option.bind_eq_some_iff] at hc
  obtain ⟨el, hel, m, hm, _, hg, z', hz', cs', hcs, ps', hps, hc⟩ := hc
  cases hc
  obtain ⟨i, zv, hi, hz, hzr, hzv, h1, hlen, hYt⟩ := zeroT_ok hY hcs β D
  have hu := elemS_ok hY hel
  have him : i.size = m := by have := size_info hY hm; simpa [hi] using this
  subst him
  have hg' : len * i.size ≤ 1048576 := Nat.le_of_ble_eq_true (guardB_some hg)
  have hrep := made_vr hzv len
  rw [hlen] at hrep
  obtain ⟨out, o1, o2, o3, o4⟩ := fill_ok (place := fun j => some (j * i.size, i.size)) he (fun j om h => h) hps hl hrep (repL_one h1 len)
  have hid := (new_ok hr.hr h3).1
  refine Gives.fresh hr h3 hf rfl (.inl rfl) out el (0, 0) (fzok_zero _ _) (Cells.ofVRs (o := 0) o2 o3 (fun j U hU => by simpa using hU) (by have := o2.length; simp at this; omega)) (fun _ => by have := o2.length; simp at this; omega) (V := .slice (some ⟨w.heap.size, 0, none⟩) len len) ?_ ?_
  · have hparts : (parts.map fun (p : Nat × Operand) => (p.1, a.eval p.2)).toList = parts.toList.map fun p => (p.1, a.eval p.2) := by simp
    have hsmall : ¬ len * i.size > 2 ^ 24 := by omega
    by_cases h0 : len * i.size = 0
    · have e0 : madeCells zv.cells (len * i.size) = #[] := by simp [madeCells, h0]
      rw [e0] at o1
      simp [Instr.buildSlice, run_underlying hu, sizeOf, typeInfo, hi, h0, newRow, Array.range_zero', o1]
    · rw [← hparts] at o1
      exact run_buildSlice w t el len _ out i zv hu hi hz hsmall h0 o1
  · simp only [VR]
    subst hid
    rw [named_same]
    exact ⟨.inr rfl, rfl⟩
theorem mks_ok (hY : TyOk P Y) (hr : Rel β D B W s.h w) {t : TypeId} {z : Bool} {cs : List AV} {l c v : AV} {L C : Value} {el : TypeId} {i : TypeInfo} (hel : elemS Y t = some el) (hi : Y.t el = some i) (hg : Nat.ble i.bytes lim = true) (hcs : zeroT Y el = some cs)
    (h : mksF z cs l c s = some (v, s')) (hl : VR β D l L) (hc : VR β D c C) (hf : Fresh D s.n.num s'.n.num) : Gives P β D B W s s' v (Instr.makeSlice t L C) w := by
  obtain ⟨ln, hln, h⟩ := ofO_some h
  obtain ⟨cn, hcn, h⟩ := ofO_some h
  obtain ⟨hb, h⟩ := ifB_some h
  obtain ⟨id, u, h3, h4⟩ := bind_some h
  obtain ⟨rfl, rfl⟩ := pure_some h4
  obtain ⟨kl, rfl⟩ := natOf_ok hln hl
  obtain ⟨kc, rfl⟩ := natOf_ok hcn hc
  simp only [Bool.and_eq_true] at hb
  have b1 : ln ≤ cn := Nat.le_of_ble_eq_true hb.1
  have b2 : cn ≤ 1048576 := Nat.le_of_ble_eq_true hb.2
  have b3 : i.bytes ≤ 1048576 := Nat.le_of_ble_eq_true hg
  obtain ⟨i', zv, hi', hz, hzr, hzv, h1, hlen, hYt⟩ := zeroT_ok hY hcs β D
  obtain rfl : i' = i := by rw [hi] at hYt; cases hYt; rfl
  have hu := elemS_ok hY hel
  have hb : i'.bytes * cn ≤ 281474976710656 := Nat.le_trans (Nat.mul_le_mul b3 b2) (by omega)
  have hb' : (i'.bytes : Int) * (cn : Int) ≤ 281474976710656 := by rw [← Int.natCast_mul]; omega
  have hrun := run_make (P := P) w t el i' zv hu hi' hz kl kc ln cn (by omega) (by omega) hb' (by omega)
  have hrep := made_vr hzv cn
  rw [hlen] at hrep
  have hid := (new_ok hr.hr h3).1
  simp only [Int.toNat_natCast] at hrun
  refine Gives.fresh hr h3 hf rfl (.inl rfl) _ el (0, 0) (fzok_zero _ _) (Cells.ofVRs (o := 0) hrep (repL_one h1 cn) (fun j U hU => by simpa using hU) (by have := hrep.length; simp at this; omega)) (fun _ => by have := hrep.length; simp at this; omega) hrun ?_
  simp only [VR]
  subst hid
  rw [named_same]
  exact ⟨.inr rfl, rfl⟩
end
end Ev
end Go.Proofs.YthknbcbkibbncaaGreat

/- DERIVED. The evaluator's operations against the model's: append, copy, clear. -/
namespace Go.Proofs.YthknbcbkibbncaaGreat
namespace Ev
open Go.RowKit

section
variable {P : Program} {Y : Ty} {β : Id → CA} {D : Id → Prop} {B N : Nat} {W w : World} {s s' : S} {e : Env} {a : Act}

theorem lenO_ok {x : AV} {X : Value} {n : Nat} (h : lenO x = some n) (hx : VR β D x X) (w : World) : (Builtin.lenOf X).run P w = .ok n w := by
  cases x <;> simp only [lenO] at h <;> try (cases h; done)
  all_goals
    cases h
    simp only [VR] at hx
  · rename_i b
    obtain ⟨rfl, _⟩ := hx
    have hsz : (⟨(b.map UInt8.ofNat).toArray⟩ : ByteArray).size = b.length := by show (List.map UInt8.ofNat b).toArray.size = _; simp
    simp [Builtin.lenOf, hsz]
  · subst hx; simp [Builtin.lenOf]
  · obtain ⟨_, rfl⟩ := hx; simp [Builtin.lenOf]
  · obtain ⟨_, _, q, cap, rfl, _⟩ := hx; simp [Builtin.lenOf]

/-- The first cells of a source. -/
theorem first_ok (hr : HR β D B s.h w) {z n m : Nat} {x : AV} {X : Value} {new : List AV} (h : firstL z n x s = some (new, s')) (hx : VR β D x X) (hm : lenO x = some m) (hn : n ≤ m) :
    Same s s' ∧ ∃ News : List Value, VRs β D new News ∧ (∀ v ∈ new, v.one = true) ∧ new.length = n * z ∧ ∀ w', w'.heap = w.heap → (Builtin.firstCells z n X).run P w' = .ok News.toArray w' := by
  have load : ∀ {id : Id} {off : Nat} {q : Nat}, M.rd id off (n * z) s = some (new, s') → (n * z ≠ 0 → q = (β id).base + off) →
      Same s s' ∧ ∃ News : List Value, VRs β D new News ∧ (∀ v ∈ new, v.one = true) ∧ new.length = n * z ∧ ∀ w', w'.heap = w.heap → (loadCells ⟨(β id).blk, q, none⟩ (n * z)).run P w' = .ok News.toArray w' := by
    intro id off q hrd hq
    obtain ⟨g1, g2, g3, Vs, g4, g5, g6, g7, g8⟩ := rd_ok hr hrd
    refine ⟨⟨g1, g2⟩, Vs, g4, g8, g3, fun w' hw' => ?_⟩
    have := run_loadCells_list (P := P) w' ⟨(β id).blk, q, none⟩ Vs (fun j V hV => by
      have hj : j < Vs.length := by
        rcases Nat.lt_or_ge j Vs.length with h' | h'
        · exact h'
        · rw [List.getElem?_eq_none h'] at hV; cases hV
      rw [add_at, hq (by omega), World.cell?_of_block (w := w) (by rw [hw'])]
      exact g6 j V hV)
    rwa [g5] at this
  cases x <;> simp only [lenO] at hm <;> try (cases hm; done)
  all_goals
    cases hm
    simp only [firstL] at h
    simp only [VR] at hx
  · -- a text
    rename_i b
    obtain ⟨hz, h⟩ := ifB_some h
    obtain ⟨rfl, rfl⟩ := pure_some h
    obtain rfl : z = 1 := Nat.eq_of_beq_eq_true hz
    obtain ⟨rfl, hb⟩ := hx
    refine ⟨⟨rfl, rfl⟩, (b.take n).map fun x : Nat => Value.int .u8 (x : Int), ?_, ?_, ?_, fun w' _ => ?_⟩
    · refine VRs.of (by simp [bytesL]) fun j x V h1 h2 => ?_
      simp only [bytesL, List.getElem?_map] at h1 h2
      cases hq : (List.take n b)[j]? with
      | none => rw [hq] at h1; cases h1
      | some q =>
        rw [hq] at h1 h2
        simp only [Option.map_some, Option.some.injEq] at h1 h2
        subst h1 h2
        simp only [VR]
        rfl
    · intro v hv
      simp only [bytesL, List.mem_map] at hv
      obtain ⟨_, _, rfl⟩ := hv
      rfl
    · simp [bytesL]; omega
    · simp only [Builtin.firstCells, Sem.run_pure]
      congr 1
      apply Array.ext'
      simp [ByteArray.data_extract]
      congr 1
      refine List.map_congr_left fun q hq => ?_
      have := hb q hq
      simp
      omega
  · -- nil
    obtain ⟨rfl, rfl⟩ := pure_some h
    subst hx
    obtain rfl : n = 0 := by omega
    exact ⟨⟨rfl, rfl⟩, [], VRs.nil, by simp, by simp, fun w' _ => by simp [Builtin.firstCells]⟩
  · obtain ⟨_, rfl⟩ := hx
    simp only [Builtin.firstCells]
    exact load h (fun _ => rfl)
  · obtain ⟨_, hlk, q, cap, rfl, hkc, hq, _⟩ := hx
    simp only [Builtin.firstCells]
    refine load h (fun h0 => hq.resolve_left (fun hc => ?_))
    obtain rfl : n = 0 := by omega
    simp at h0

section
variable {t xT ty el : TypeId} {i : TypeInfo} {d : TypeDesc}
set_option maxHeartbeats 800000 in
/-- append where there is room. -/
theorem app_room (hu : P.underlying t = some (.slice el)) (hi : P.info? el = some i) (hx : P.underlying xT = some d) (hd : d = .string ∨ ∃ e, d = .slice e) {base : Option Addr} {sLen sCap n : Nat} {X : Value} {News : List Value} {w' : World}
    (hlen : (Builtin.lenOf X).run P w = .ok n w) (hroom : sLen + n ≤ sCap) (hfirst : (Builtin.firstCells i.size n X).run P w = .ok News.toArray w)
    (hst : ∀ a, base = some a → (storeCells (a.add (sLen * i.size)) News).run P w = .ok () w') (hno : base = none → w' = w) :
    (Builtin.append_ #[t, xT] ty #[.slice base sLen sCap, X]).run P w = .ok (.slice base (sLen + n) sCap) w' := by
  cases base with
  | none =>
    obtain rfl := hno rfl
    rcases hd with rfl | ⟨e2, rfl⟩ <;> simp [Builtin.append_, run_underlying hu, run_underlying hx, sizeOf, typeInfo, hi, hlen, hroom, hfirst]
  | some ad =>
    have := hst ad rfl
    rcases hd with rfl | ⟨e2, rfl⟩ <;> simp [Builtin.append_, run_underlying hu, run_underlying hx, sizeOf, typeInfo, hi, hlen, hroom, hfirst, this]
set_option maxHeartbeats 800000 in
/-- append where there is none. -/
theorem app_grow (hu : P.underlying t = some (.slice el)) (hi : P.info? el = some i) {z : Value} (hzz : i.zero = some z) (hx : P.underlying xT = some d) (hd : d = .string ∨ ∃ e, d = .slice e) {base : Option Addr} {sLen sCap n : Nat} {X : Value} {Old News : List Value}
    (hlen : (Builtin.lenOf X).run P w = .ok n w) (hroom : sCap < sLen + n) (hl : sLen ≤ 1048576) (hn : n ≤ 1048576) (hb : i.bytes ≤ 1048576) (hb1 : 1 ≤ i.bytes)
    (hold : (Builtin.firstCells i.size sLen (.slice base sLen sCap)).run P w.drew = .ok Old.toArray w.drew) (hfirst : (Builtin.firstCells i.size n X).run P w.drew = .ok News.toArray w.drew) :
    (Builtin.append_ #[t, xT] ty #[.slice base sLen sCap, X]).run P w = .ok (.slice (some ⟨w.heap.size, 0, none⟩) (sLen + n) (grownCap w (sLen + n) sCap el))
      (w.drew.alloc (.cells (Old.toArray ++ News.toArray ++ Builtin.zeroCells z.cells (grownCap w (sLen + n) sCap el - (sLen + n))) el)) := by
  have h1 : ¬ (sLen + n ≤ sCap) := by omega
  have h2 : ¬ (9223372036854775807 < ((sLen : Int) + (n : Int))) := by omega
  have h3 := growslice_fits (need := sLen + n) (old := sCap) (bytes := i.bytes) hroom (by
    have : (sLen + n) * i.bytes ≤ 2097152 * 1048576 := Nat.mul_le_mul (by omega) hb
    omega)
  have h4 : ¬ (281474976710656 < Builtin.nextslicecap (sLen + n) sCap * i.bytes) := by omega
  rcases hd with rfl | ⟨e2, rfl⟩ <;> simp [Builtin.append_, run_underlying hu, run_underlying hx, sizeOf, typeInfo, zeroValue, hi, hzz, hlen, h1, h2, h4, Question.forced, hold, hfirst, newRow, grownCap]
  all_goals
    congr 2
    apply Array.ext'
    simp
set_option maxHeartbeats 800000 in
/-- append of make, where there is room. -/
theorem apz_room (hu : P.underlying t = some (.slice el)) (hi : P.info? el = some i) {z : Value} (hzz : i.zero = some z) (hzs : z.cells.size = i.size) (hx : P.underlying xT = some d) (hd : isIntD d = true) {base : Option Addr} {sLen sCap n : Nat} {k : IntKind} {w' : World}
    (hroom : sLen + n ≤ sCap) (hn : n ≤ 1048576) (hb : i.bytes ≤ 1048576)
    (hst : ∀ a, base = some a → (storeCells (a.add (sLen * i.size)) (madeCells z.cells (n * i.size)).toList).run P w = .ok () w') (hno : base = none → w' = w) :
    (Builtin.append_ #[t, xT] ty #[.slice base sLen sCap, .int k n]).run P w = .ok (.slice base (sLen + n) sCap) w' := by
  have hw : IntKind.i64.wrap (n : Int) = n := by rw [IntKind.wrap_i64]; omega
  have hneg : ¬ ((n : Int) < 0) := by omega
  have hnb : n * i.bytes ≤ 281474976710656 := Nat.le_trans (Nat.mul_le_mul hn hb) (by omega)
  have h48 : ¬ (281474976710656 < (n : Int) * (i.bytes : Int)) := by rw [← Int.natCast_mul]; omega
  have hmade : Builtin.zeroCells z.cells n = madeCells z.cells (n * i.size) := by simp [Builtin.zeroCells, madeCells, hzs]
  have hd' : ∃ kk, d = .int kk := by cases d <;> simp [isIntD] at hd; exact ⟨_, rfl⟩
  obtain ⟨kk, rfl⟩ := hd'
  by_cases h0 : n * i.size = 0
  · have hm0 : madeCells z.cells (n * i.size) = #[] := by simp [madeCells, h0]
    rw [hm0] at hst
    cases base with
    | none =>
      obtain rfl := hno rfl
      simp [Builtin.append_, run_underlying hu, run_underlying hx, sizeOf, typeInfo, hi, asInt, asIntOf, hw, hneg, h48, hroom, h0]
    | some ad =>
      have := hst ad rfl
      simp at this
      simp [Builtin.append_, run_underlying hu, run_underlying hx, sizeOf, typeInfo, hi, asInt, asIntOf, hw, hneg, h48, hroom, h0, this]
  · cases base with
    | none =>
      obtain rfl := hno rfl
      simp [Builtin.append_, run_underlying hu, run_underlying hx, sizeOf, typeInfo, zeroValue, hzz, hi, asInt, asIntOf, hw, hneg, h48, hroom, h0]
    | some ad =>
      have := hst ad rfl
      simp [Builtin.append_, run_underlying hu, run_underlying hx, sizeOf, typeInfo, zeroValue, hzz, hi, asInt, asIntOf, hw, hneg, h48, hroom, h0, hmade, this]
set_option maxHeartbeats 800000 in
/-- append of make, where there is none. -/
theorem apz_grow (hu : P.underlying t = some (.slice el)) (hi : P.info? el = some i) {z : Value} (hzz : i.zero = some z) (hzs : z.cells.size = i.size) (hx : P.underlying xT = some d) (hd : isIntD d = true) {base : Option Addr} {sLen sCap n : Nat} {k : IntKind} {Old : List Value}
    (hroom : sCap < sLen + n) (hl : sLen ≤ 1048576) (hn : n ≤ 1048576) (hb : i.bytes ≤ 1048576) (hb1 : 1 ≤ i.bytes)
    (hold : (Builtin.firstCells i.size sLen (.slice base sLen sCap)).run P w.drew = .ok Old.toArray w.drew) :
    (Builtin.append_ #[t, xT] ty #[.slice base sLen sCap, .int k n]).run P w = .ok (.slice (some ⟨w.heap.size, 0, none⟩) (sLen + n) (grownCap w (sLen + n) sCap el))
      (w.drew.alloc (.cells (Old.toArray ++ (madeCells z.cells (n * i.size)).toList.toArray ++ Builtin.zeroCells z.cells (grownCap w (sLen + n) sCap el - (sLen + n))) el)) := by
  have hw : IntKind.i64.wrap (n : Int) = n := by rw [IntKind.wrap_i64]; omega
  have hneg : ¬ ((n : Int) < 0) := by omega
  have hnb : n * i.bytes ≤ 281474976710656 := Nat.le_trans (Nat.mul_le_mul hn hb) (by omega)
  have h48 : ¬ (281474976710656 < (n : Int) * (i.bytes : Int)) := by rw [← Int.natCast_mul]; omega
  have hmade : Builtin.zeroCells z.cells n = madeCells z.cells (n * i.size) := by simp [Builtin.zeroCells, madeCells, hzs]
  have hd' : ∃ kk, d = .int kk := by cases d <;> simp [isIntD] at hd; exact ⟨_, rfl⟩
  obtain ⟨kk, rfl⟩ := hd'
  have h1 : ¬ (sLen + n ≤ sCap) := by omega
  have h2 : ¬ (9223372036854775807 < ((sLen : Int) + (n : Int))) := by omega
  have h3 := growslice_fits (need := sLen + n) (old := sCap) (bytes := i.bytes) hroom (by
    have : (sLen + n) * i.bytes ≤ 2097152 * 1048576 := Nat.mul_le_mul (by omega) hb
    omega)
  have h4 : ¬ (281474976710656 < Builtin.nextslicecap (sLen + n) sCap * i.bytes) := by omega
  by_cases h0 : n * i.size = 0
  · have hm0 : madeCells z.cells (n * i.size) = #[] := by simp [madeCells, h0]
    rw [hm0]
    simp [Builtin.append_, run_underlying hu, run_underlying hx, sizeOf, typeInfo, zeroValue, hi, hzz, asInt, asIntOf, hw, hneg, h48, h1, h2, h4, h0, Question.forced, hold, newRow, grownCap]
  · simp [Builtin.append_, run_underlying hu, run_underlying hx, sizeOf, typeInfo, zeroValue, hi, hzz, asInt, asIntOf, hw, hneg, h48, h1, h2, h4, h0, Question.forced, hold, newRow, grownCap, hmade]
end
end
end Ev
end Go.Proofs.YthknbcbkibbncaaGreat
