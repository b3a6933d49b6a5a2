/- DERIVED. The operations of maps: what the evaluator gives is what the model does. -/
import Derived.Test.YthknbcbkibbncaaGreatCn6
import Derived.Test.YthknbcbkibbncaaGreatCn7
set_option linter.all false
namespace Go.Proofs.YthknbcbkibbncaaGreat
namespace Ev
open Go.RowKit
section
variable {P : Program} {Y : Ty} {β : Id → CA} {D : Id → Prop} {B N : Nat} {W w : World} {s s' u : S} {e : Env} {a : Act}
theorem rdM_ok (hr : HR β D B s.h w) {id : Id} {l : List AV} (h : M.rdM id s = some (l, s')) :
    s'.h = s.h ∧ s'.n = s.n ∧ D id ∧ ∃ k es clock, s.h id = some k ∧ k.z.m = some l ∧ k.c = [] ∧ w.heap[(β id).blk]? = some (.map es clock) ∧ MapR β D es.toList clock l := by
  unfold M.rdM at h
  split at h
  · cases h
  · rename_i k hk
    split at h
    · cases h
    · rename_i l' hm
      cases h
      obtain ⟨g1, g2⟩ := logR_h s id k.c.length 1
      obtain ⟨hd, hl⟩ := hr.live id k hk
      unfold LiveB at hl
      rw [hm] at hl
      obtain ⟨h0, es, clock, h1, h2⟩ := hl
      exact ⟨g1, g2, hd, k, es, clock, hk, hm, h0, h1, h2⟩
theorem wrM_ok (hr : Rel β D B W s.h w) {id : Id} {l : List AV} {u : Unit} (h : M.wrM id l s = some (u, s')) {es : Array MapEntry} {clock : Nat} (hm : MapR β D es.toList clock l) :
    s'.n = s.n ∧ Rel β D B W s'.h { w with heap := w.heap.setIfInBounds (β id).blk (.map es clock) } := by
  unfold M.wrM at h
  split at h
  · cases h
  · rename_i k hk
    split at h
    · cases h
    · rename_i l' hm'
      cases h
      obtain ⟨g1, g2⟩ := logR_h ⟨s.tr, Heap.put s.h id (some ⟨⟨k.z.s, k.z.b, k.z.t, some l⟩, k.c⟩), s.n, s.r, s.w⟩ id k.c.length 1
      obtain ⟨g3, g4⟩ := logW_h (M.logR ⟨s.tr, Heap.put s.h id (some ⟨⟨k.z.s, k.z.b, k.z.t, some l⟩, k.c⟩), s.n, s.r, s.w⟩ id k.c.length 1) id k.c.length 1
      refine ⟨by rw [g4, g2], ?_⟩
      rw [g3, g1]
      obtain ⟨hd, hl⟩ := hr.hr.live id k hk
      unfold LiveB at hl
      rw [hm'] at hl
      obtain ⟨h0, es0, c0, h1, h2⟩ := hl
      have hset := MapKept.heap_set (o' := .map es clock) h1
      refine ⟨hr.hr.swap hd (by simp) (fun i hi => hset.2 i hi) (by rw [hk]; simp) ?_, hr.bel.trans ⟨rfl, rfl, rfl, by simp, fun i hi => hset.2 i ?_⟩⟩
      · rintro k' ⟨⟩
        unfold LiveB
        exact ⟨h0, es, clock, hset.1, hm⟩
      · have := hr.hr.old id hd
        omega
theorem zeroV_ok (hY : TyOk P Y) {t : TypeId} {z : AV} (h : zeroV Y t = some z) (β : Id → CA) (D : Id → Prop) : ∃ Z, (∀ w, (zeroValue t).run P w = .ok Z w) ∧ VR β D z Z := by
  unfold zeroV at h
  simp only [Option.bind_eq_some_iff] at h
  obtain ⟨i, hi, Z, hz, h⟩ := h
  have hp := hY.t t i hi
  exact ⟨Z, fun w => by simp [zeroValue, typeInfo, hp, hz], ofV_ok h β D⟩
theorem lkR_ok {ok b : Bool} {v : AV} {V : Value} (h : VR β D v V) : VR β D (lkR ok v b) (if ok then .tuple #[V, .bool b] else V) := by
  cases ok
  · simpa [lkR] using h
  · simp only [lkR, if_true, VR]
    exact ⟨[V, .bool b], rfl, VRs.cons h (VRs.cons (by simp [VR]) VRs.nil)⟩
theorem lk_ok (hY : TyOk P Y) (hr : Rel β D B W s.h w) {t kt et : TypeId} {q : Option Nat} {z : AV} {ok : Bool} (ht : under Y t = some (.map kt et)) (hq : keyD Y kt = some q) (hz : zeroV Y et = some z) {x k v : AV} {X K : Value}
    (h : lkF q z ok x k s = some (v, s')) (hx : VR β D x X) (hk : VR β D k K) : Gives P β D B W s s' v (Instr.lookup t X K ok) w := by
  have hu := under_ok hY ht
  have hkk := keyD_ok hY hq
  have hkb := ifB_some h
  clear h
  obtain ⟨hko, h⟩ := hkb
  obtain ⟨Z, hzr, hzv⟩ := zeroV_ok hY hz β D
  cases x <;> simp only at h <;> first | (simp only [M.no] at h; cases h; done) | skip
  · obtain ⟨rfl, rfl⟩ := pure_some h
    simp only [VR] at hx
    subst hx
    refine Gives.same hr (lkR_ok hzv) ?_
    have hc := checkKey_ok hkk hko hk true w
    have hf : (Instr.findKey kt K []).run P w = .ok none w := by
      obtain ⟨R, h1, h2⟩ := findKey_ok hkk hko hk (es := []) (l := []) (r := none) (by simp [mflat, VRs]) rfl w
      cases h2
      exact h1
    simp [Instr.lookup, run_underlying hu, hc, hf, hzr]
  · rename_i id
    simp only [VR] at hx
    obtain ⟨_, rfl⟩ := hx
    obtain ⟨l, u, h1, h⟩ := bind_some h
    obtain ⟨g1, g2, hd, b, es, clock, hb, hbm, hbc, hw, hmr⟩ := rdM_ok hr.hr h1
    obtain ⟨nl, hnl, h⟩ := ofO_some h
    obtain ⟨hn1, hn2⟩ := mapL_ok hmr hnl
    obtain ⟨r, hfm, h⟩ := ofO_some h
    obtain ⟨R, hf, hhit⟩ := findKey_ok hkk hko hk hn2 hfm w
    have hc := checkKey_ok hkk hko hk es.isEmpty w
    cases hhit with
    | no =>
      obtain ⟨rfl, rfl⟩ := pure_some h
      refine ⟨β, D, w, _, by rw [g2]; exact Ext.refl _ _ _, ⟨by rw [g1]; exact hr.hr, hr.bel⟩, lkR_ok hzv, ?_⟩
      simp only [Instr.lookup, Sem.run_bind, run_underlying hu, Result.andThen_ok, MapKept.run_getObj_map hw, hc, hf, hzr, Sem.run_pure]
    | yes en0 en h2 hv hb hke hsb =>
      obtain ⟨rfl, rfl⟩ := pure_some h
      refine ⟨β, D, w, _, by rw [g2]; exact Ext.refl _ _ _, ⟨by rw [g1]; exact hr.hr, hr.bel⟩, lkR_ok hv, ?_⟩
      simp only [Instr.lookup, Sem.run_bind, run_underlying hu, Result.andThen_ok, MapKept.run_getObj_map hw, hc, hf, Sem.run_pure]
theorem setAt_ok {es : Array MapEntry} {l : List AV} (hl : VRs β D l (mflat es.toList)) {i : Nat} {en : MapEntry} (he : es[i]? = some en) {k v b : AV} {f : MapEntry → MapEntry} (hk : VR β D k (f en).key) (hv : VR β D v (f en).val) (hb : VR β D b (.int .i64 (f en).born)) :
    VRs β D (setAt l i k v b) (mflat (es.modify i f).toList) := by
  have hlt : i < es.size := (Array.getElem?_eq_some_iff.1 he).1
  have hsplit : (es.modify i f).toList = es.toList.take i ++ (f en :: es.toList.drop (i + 1)) := by
    apply List.ext_getElem?
    intro j
    rw [Array.getElem?_toList, Array.getElem?_modify]
    rcases Nat.lt_trichotomy j i with h | h | h
    · rw [if_neg (by omega), List.getElem?_append_left (by simp; omega), List.getElem?_take, if_pos h, Array.getElem?_toList]
    · subst h
      rw [if_pos rfl, he, List.getElem?_append_right (by simp; omega)]
      simp [Nat.min_eq_left (Nat.le_of_lt hlt)]
    · rw [if_neg (by omega), List.getElem?_append_right (by simp; omega), List.length_take, Nat.min_eq_left (by simp; omega)]
      obtain ⟨d, rfl⟩ : ∃ d, j = i + 1 + d := ⟨j - (i + 1), by omega⟩
      rw [show i + 1 + d - i = d + 1 by omega, List.getElem?_cons_succ, List.getElem?_drop, Array.getElem?_toList]
  rw [hsplit, mflat_append, mflat_cons, ← mflat_take, ← mflat_drop]
  unfold setAt
  refine (hl.take _).append (VRs.cons hk (VRs.cons hv (VRs.cons hb ?_)))
  rw [show i * 3 + 3 = (i + 1) * 3 by omega]
  exact hl.drop _
theorem push_ok {es : Array MapEntry} {l : List AV} (hl : VRs β D l (mflat es.toList)) {k v b : AV} {en : MapEntry} (hk : VR β D k en.key) (hv : VR β D v en.val) (hb : VR β D b (.int .i64 en.born)) : VRs β D (l ++ [k, v, b]) (mflat (es.push en).toList) := by
  rw [Array.toList_push, mflat_append, show mflat [en] = [en.key, en.val, .int .i64 en.born] by simp [mflat]]
  exact hl.append (VRs.cons hk (VRs.cons hv (VRs.cons hb VRs.nil)))
theorem stamp_v (n : Nat) : VR β D (.i .i64 (.ofNat n)) (.int .i64 n) := by simp only [VR]; rfl
theorem stays_ok {K : Value} (h : Instr.sameBits 10000 K K = true) (w : World) : (Instr.keyThatStays K K).run P w = .ok K w := by simp [Instr.keyThatStays, h]
theorem up_ok (hY : TyOk P Y) (hr : Rel β D B W s.h w) {t kt et : TypeId} {q : Option Nat} (ht : under Y t = some (.map kt et)) (hq : keyD Y kt = some q) {x k y v : AV} {X K U : Value}
    (h : mupF q x k y s = some (v, s')) (hx : VR β D x X) (hk : VR β D k K) (hy : VR β D y U) : ∃ w', Rel β D B W s'.h w' ∧ v = und ∧ s'.n = s.n ∧ (Instr.mapUpdate t X K U).run P w = .ok () w' := by
  have hu := under_ok hY ht
  have hkk := keyD_ok hY hq
  have hkb := ifB_some h
  clear h
  obtain ⟨hko, h⟩ := hkb
  cases x <;> simp only at h <;> first | (simp only [M.no] at h; cases h; done) | skip
  rename_i id
  simp only [VR] at hx
  obtain ⟨_, rfl⟩ := hx
  obtain ⟨l, u, h1, h⟩ := bind_some h
  obtain ⟨g1, g2, hd, b, es, clock, hb, hbm, hbc, hw, hmr⟩ := rdM_ok hr.hr h1
  obtain ⟨nl, hnl, h⟩ := ofO_some h
  obtain ⟨hn1, hn2⟩ := mapL_ok hmr hnl
  obtain ⟨r, hfm, h⟩ := ofO_some h
  obtain ⟨R, hf, hhit⟩ := findKey_ok hkk hko hk hn2 hfm w
  have hc := checkKey_ok hkk hko hk false w
  obtain ⟨un, u2, h2, h⟩ := bind_some h
  obtain ⟨rfl, rfl⟩ := pure_some h
  have hr' : Rel β D B W u.h w := ⟨by rw [g1]; exact hr.hr, hr.bel⟩
  cases hhit with
  | no =>
    obtain ⟨g3, g4⟩ := wrM_ok hr' h2 (es := es.push ⟨K, U, clock⟩) (clock := clock + 1) (by
      simp only
      rw [hn1]
      exact clk_ok (push_ok hn2 hk hy (stamp_v _)))
    refine ⟨_, g4, rfl, g3.trans g2, ?_⟩
    simp only [Instr.mapUpdate, Sem.run_bind, run_underlying hu, Result.andThen_ok, MapKept.run_getObj_map hw, hc, hf, MapKept.run_setObj_map _ hw]
  | yes en0 en he hv hb hke hsb =>
    obtain ⟨g3, g4⟩ := wrM_ok hr' h2 (es := es.modify en0.i fun e => { e with key := K, val := U }) (clock := clock) (by
      simp only
      rw [hn1]
      exact clk_ok (setAt_ok hn2 (by simpa using he) hk hy hb))
    refine ⟨_, g4, rfl, g3.trans g2, ?_⟩
    have he' : es[en0.i]? = some en := by simpa using he
    simp only [Instr.mapUpdate, Sem.run_bind, run_underlying hu, Result.andThen_ok, MapKept.run_getObj_map hw, hc, hf, he', Option.map_some, Option.getD_some, hke, stays_ok hsb, MapKept.run_setObj_map _ hw]
theorem en_ok (hY : TyOk P Y) (hr : Rel β D B W s.h w) {t kt et : TypeId} {q : Option Nat} {z : AV} (ht : under Y t = some (.map kt et)) (hq : keyD Y kt = some q) (hz : zeroV Y et = some z) {x k v : AV} {X K : Value}
    (h : menF q z x k s = some (v, s')) (hx : VR β D x X) (hk : VR β D k K) : Gives P β D B W s s' v (Instr.mapEntry t X K) w := by
  have hu := under_ok hY ht
  have hkk := keyD_ok hY hq
  have hkb := ifB_some h
  clear h
  obtain ⟨hko, h⟩ := hkb
  obtain ⟨Z, hzr, hzv⟩ := zeroV_ok hY hz β D
  cases x <;> simp only at h <;> first | (simp only [M.no] at h; cases h; done) | skip
  rename_i id
  simp only [VR] at hx
  obtain ⟨_, rfl⟩ := hx
  obtain ⟨l, u, h1, h⟩ := bind_some h
  obtain ⟨g1, g2, hd, b, es, clock, hb, hbm, hbc, hw, hmr⟩ := rdM_ok hr.hr h1
  obtain ⟨nl, hnl, h⟩ := ofO_some h
  obtain ⟨hn1, hn2⟩ := mapL_ok hmr hnl
  obtain ⟨r, hfm, h⟩ := ofO_some h
  obtain ⟨R, hf, hhit⟩ := findKey_ok hkk hko hk hn2 hfm w
  have hc := checkKey_ok hkk hko hk false w
  have hr' : Rel β D B W u.h w := ⟨by rw [g1]; exact hr.hr, hr.bel⟩
  cases hhit with
  | no =>
    obtain ⟨un, u2, h2, h⟩ := bind_some h
    obtain ⟨rfl, rfl⟩ := pure_some h
    obtain ⟨g3, g4⟩ := wrM_ok hr' h2 (es := es.push ⟨K, Z, clock⟩) (clock := clock + 1) (by
      rw [hn1]
      exact clk_ok (push_ok hn2 hk hzv (stamp_v _)))
    refine ⟨β, D, _, .tuple #[Z, goInt clock], by rw [g3, g2]; exact Ext.refl _ _ _, g4, ?_, ?_⟩
    · rw [hn1]
      simp only [VR]
      exact ⟨[Z, goInt clock], rfl, VRs.cons hzv (VRs.cons (stamp_v _) VRs.nil)⟩
    · simp only [Instr.mapEntry, Sem.run_bind, run_underlying hu, Result.andThen_ok, MapKept.run_getObj_map hw, hc, hf, hzr, MapKept.run_setObj_map _ hw, Sem.run_pure]
  | yes en0 en he hv hb hke hsb =>
    obtain ⟨un, u2, h2, h⟩ := bind_some h
    obtain ⟨rfl, rfl⟩ := pure_some h
    obtain ⟨g3, g4⟩ := wrM_ok hr' h2 (es := es.modify en0.i fun e => { e with key := K }) (clock := clock) (by
      rw [hn1]
      exact clk_ok (setAt_ok hn2 (by simpa using he) hk hv hb))
    have he' : es[en0.i]? = some en := by simpa using he
    refine ⟨β, D, _, .tuple #[en.val, goInt en.born], by rw [g3, g2]; exact Ext.refl _ _ _, g4, ?_, ?_⟩
    · simp only [VR]
      exact ⟨[en.val, goInt en.born], rfl, VRs.cons hv (VRs.cons hb VRs.nil)⟩
    · simp only [Instr.mapEntry, Sem.run_bind, run_underlying hu, Result.andThen_ok, MapKept.run_getObj_map hw, hc, hf, he', Option.map_some, Option.getD_some, hke, stays_ok hsb, MapKept.run_setObj_map _ hw, Sem.run_pure]
theorem cut_ok {es : Array MapEntry} {l : List AV} (hl : VRs β D l (mflat es.toList)) {i : Nat} {en : MapEntry} (he : es[i]? = some en) : VRs β D (cutAt l i) (mflat (es.eraseIdxIfInBounds i).toList) := by
  have hlt : i < es.size := (Array.getElem?_eq_some_iff.1 he).1
  have hsub : (es.eraseIdxIfInBounds i).toList = es.toList.take i ++ es.toList.drop (i + 1) := by
    unfold Array.eraseIdxIfInBounds
    rw [dif_pos hlt]
    simp [List.eraseIdx_eq_take_drop_succ]
  rw [hsub, mflat_append, ← mflat_take, ← mflat_drop]
  unfold cutAt
  rw [show i * 3 + 3 = (i + 1) * 3 by omega]
  exact (hl.take _).append (hl.drop _)
theorem del_ok (hY : TyOk P Y) (hr : Rel β D B W s.h w) {t ty kt et : TypeId} {q : Option Nat} (ht : under Y t = some (.map kt et)) (hq : keyD Y kt = some q) {x k v : AV} {X K : Value} {ts : List TypeId}
    (h : delF q x k s = some (v, s')) (hx : VR β D x X) (hk : VR β D k K) : Gives P β D B W s s' v (Builtin.delete_ (t :: ts).toArray ty #[X, K]) w := by
  have hu := under_ok hY ht
  have hkk := keyD_ok hY hq
  have h00 : (t :: ts).toArray[0]? = some t := by simp
  have hund : VR β D (.tu []) (.tuple #[]) := by simp only [VR]; exact ⟨[], rfl, VRs.nil⟩
  have hkb := ifB_some h
  clear h
  obtain ⟨hko, h⟩ := hkb
  cases x <;> simp only at h <;> first | (simp only [M.no] at h; cases h; done) | skip
  · obtain ⟨rfl, rfl⟩ := pure_some h
    simp only [VR] at hx
    subst hx
    have hc := checkKey_ok hkk hko hk true w
    refine Gives.same hr hund ?_
    simp [Builtin.delete_, run_underlying hu, hc]
  · rename_i id
    simp only [VR] at hx
    obtain ⟨_, rfl⟩ := hx
    obtain ⟨l, u, h1, h⟩ := bind_some h
    obtain ⟨g1, g2, hd, b, es, clock, hb, hbm, hbc, hw, hmr⟩ := rdM_ok hr.hr h1
    obtain ⟨nl, hnl, h⟩ := ofO_some h
    obtain ⟨hn1, hn2⟩ := mapL_ok hmr hnl
    obtain ⟨r, hfm, h⟩ := ofO_some h
    obtain ⟨R, hf, hhit⟩ := findKey_ok hkk hko hk hn2 hfm w
    have hc := checkKey_ok hkk hko hk es.isEmpty w
    have hr' : Rel β D B W u.h w := ⟨by rw [g1]; exact hr.hr, hr.bel⟩
    cases hhit with
    | no =>
      obtain ⟨rfl, rfl⟩ := pure_some h
      have hsame : ({ w with heap := w.heap.setIfInBounds (β id).blk (.map es clock) } : World) = w := by
        have e : w.heap.setIfInBounds (β id).blk (.map es clock) = w.heap := by
          apply Array.ext_getElem?
          intro j
          by_cases hj : j = (β id).blk
          · subst hj
            rw [(MapKept.heap_set hw).1, hw]
          · rw [(MapKept.heap_set hw).2 j hj]
        rw [e]
      refine ⟨β, D, w, .tuple #[], by rw [g2]; exact Ext.refl _ _ _, hr', hund, ?_⟩
      simp [Builtin.delete_, run_underlying hu, MapKept.run_getObj_map hw, hc, hf, MapKept.run_setObj_map _ hw, hsame]
    | yes en0 en he hv hb hke hsb =>
      obtain ⟨un, u2, h2, h⟩ := bind_some h
      obtain ⟨rfl, rfl⟩ := pure_some h
      obtain ⟨g3, g4⟩ := wrM_ok hr' h2 (es := es.eraseIdxIfInBounds en0.i) (clock := clock) (by
        rw [hn1]
        exact clk_ok (cut_ok hn2 (by simpa using he)))
      refine ⟨β, D, _, .tuple #[], by rw [g3, g2]; exact Ext.refl _ _ _, g4, hund, ?_⟩
      simp [Builtin.delete_, run_underlying hu, MapKept.run_getObj_map hw, hc, hf, MapKept.run_setObj_map _ hw]
theorem lnm_ok (hY : TyOk P Y) (hr : Rel β D B W s.h w) {t ty kt et : TypeId} (ht : under Y t = some (.map kt et)) {x v : AV} {X : Value}
    (h : lnmF x s = some (v, s')) (hx : VR β D x X) : Gives P β D B W s s' v (Builtin.len_ #[t] ty #[X]) w := by
  have hu := under_ok hY ht
  cases x <;> first | (simp only [lnmF, M.no] at h; cases h; done) | skip
  · obtain ⟨rfl, rfl⟩ := pure_some h
    simp only [VR] at hx
    subst hx
    refine Gives.same hr (V := goInt 0) (by simp only [VR]; rfl) ?_
    simp [Builtin.len_, run_underlying hu]
  · rename_i id
    simp only [VR] at hx
    obtain ⟨_, rfl⟩ := hx
    obtain ⟨l, u, h1, h⟩ := bind_some h
    obtain ⟨g1, g2, hd, b, es, clock, hb, hbm, hbc, hw, hmr⟩ := rdM_ok hr.hr h1
    obtain ⟨nl, hnl, h⟩ := ofO_some h
    obtain ⟨hn1, hn2⟩ := mapL_ok hmr hnl
    obtain ⟨rfl, rfl⟩ := pure_some h
    have hlen : nl.2.length / 3 = es.size := by
      have := hn2.length
      rw [mflat_length] at this
      simp at this
      omega
    refine ⟨β, D, w, goInt es.size, by rw [g2]; exact Ext.refl _ _ _, ⟨by rw [g1]; exact hr.hr, hr.bel⟩, ?_, ?_⟩
    · rw [hlen]; exact stamp_v _
    · simp [Builtin.len_, run_underlying hu, MapKept.run_getObj_map hw]
theorem stampM_ok {b : AV} {S0 : Value} (hb : VR β D b S0) : ∀ (es : List MapEntry) (l : List AV) (i : Nat) (r : Nat × AV), VRs β D l (mflat es) → stampM b l i = some r →
    ∃ j en, r.1 = i + j ∧ es[j]? = some en ∧ VR β D r.2 en.key ∧ S0 = .int .i64 en.born ∧ ∀ q ∈ es.take j, ∃ x : Int, S0 = .int .i64 x ∧ x ≠ q.born
  | [], l, i, r, hl, h => by
    simp only [mflat, List.flatMap_nil] at hl
    obtain rfl : l = [] := by
      cases l with
      | nil => rfl
      | cons x xs => simp [VRs] at hl
    simp [stampM] at h
  | en :: es, l, i, r, hl, h => by
    rw [mflat_cons] at hl
    obtain ⟨a, l, rfl, ha, hl⟩ := hl.uncons
    obtain ⟨v, l, rfl, hv, hl⟩ := hl.uncons
    obtain ⟨c, l, rfl, hc, hl⟩ := hl.uncons
    unfold stampM at h
    simp only at h
    split at h
    · rename_i he
      cases h
      obtain ⟨kd, x, y, e1, e2, e3⟩ := ceq_int he hb hc
      cases e2
      have : x = (en.born : Int) := by simpa using e3.symm
      subst this
      exact ⟨0, en, rfl, by simp, ha, e1, by simp⟩
    · rename_i he
      obtain ⟨kd, x, y, e1, e2, e3⟩ := ceq_int he hb hc
      cases e2
      have hne : x ≠ (en.born : Int) := fun e => by subst e; simp at e3
      obtain ⟨j, en', h1, h2, h3, h4, h5⟩ := stampM_ok hb es l (i + 1) r hl h
      refine ⟨j + 1, en', by omega, by simpa using h2, h3, h4, fun q hq => ?_⟩
      rw [List.take_succ_cons] at hq
      rcases List.mem_cons.1 hq with rfl | hq
      · exact ⟨x, e1, hne⟩
      · exact h5 q hq
    · cases h
theorem es_ok (hr : Rel β D B W s.h w) {t : TypeId} {x b y v : AV} {X S0 U : Value}
    (h : mesF x b y s = some (v, s')) (hx : VR β D x X) (hb : VR β D b S0) (hy : VR β D y U) : ∃ w', Rel β D B W s'.h w' ∧ v = und ∧ s'.n = s.n ∧ (Instr.entryStore t X S0 U).run P w = .ok () w' := by
  cases x <;> first | (simp only [mesF, M.no] at h; cases h; done) | skip
  rename_i id
  simp only [VR] at hx
  obtain ⟨_, rfl⟩ := hx
  obtain ⟨l, u, h1, h⟩ := bind_some h
  obtain ⟨g1, g2, hd, bk, es, clock, hbk, hbm, hbc, hw, hmr⟩ := rdM_ok hr.hr h1
  obtain ⟨nl, hnl, h⟩ := ofO_some h
  obtain ⟨hn1, hn2⟩ := mapL_ok hmr hnl
  obtain ⟨r, hst, h⟩ := ofO_some h
  obtain ⟨un, u2, h2, h⟩ := bind_some h
  obtain ⟨rfl, rfl⟩ := pure_some h
  have hr' : Rel β D B W u.h w := ⟨by rw [g1]; exact hr.hr, hr.bel⟩
  obtain ⟨j, en, k1, k2, k3, k4, k5⟩ := stampM_ok hb es.toList nl.2 0 r hn2 hst
  obtain rfl : r.1 = j := by omega
  have he : es[r.1]? = some en := by simpa using k2
  have hlt : r.1 < es.size := (Array.getElem?_eq_some_iff.1 he).1
  obtain ⟨g3, g4⟩ := wrM_ok hr' h2 (es := es.modify r.1 fun e => { e with val := U }) (clock := clock) (by
    rw [hn1]
    exact clk_ok (setAt_ok hn2 he k3 hy (by rw [← k4]; exact hb)))
  refine ⟨_, g4, rfl, g3.trans g2, ?_⟩
  have hfind : es.findIdx? (fun e => (e.born : Int) == (en.born : Int)) = some r.1 := by
    rw [Array.findIdx?_eq_some_iff_getElem]
    refine ⟨hlt, ?_, fun m hm => ?_⟩
    · have : es[r.1] = en := (Array.getElem?_eq_some_iff.1 he).2
      simp [this]
    · obtain ⟨x, e1, e2⟩ := k5 (es[m]'(by omega)) (by
        rw [List.mem_take_iff_getElem]
        exact ⟨m, by simp; omega, by simp⟩)
      rw [k4] at e1
      cases e1
      simp only [beq_iff_eq]
      intro e
      exact e2 e.symm
  subst k4
  simp only [Instr.entryStore, Sem.run_bind, MapKept.run_getObj_map hw, Result.andThen_ok, asInt, asIntOf, Sem.run_pure, hfind, MapKept.run_setObj_map _ hw]
theorem mkm_ok (hr : Rel β D B W s.h w) (hf : Fresh D s.n.num s'.n.num) {t : TypeId} {v : AV} (h : mkmF s = some (v, s')) : Gives P β D B W s s' v (Instr.makeMap t none) w := by
  obtain ⟨id, u, h1, h2⟩ := bind_some h
  obtain ⟨rfl, rfl⟩ := pure_some h2
  obtain ⟨rfl, hn, hh⟩ := new_ok hr.hr h1
  have hd : ¬ D s.n := hf s.n (Nat.le_refl _) (by omega)
  have hx := named_ext β (D := D) (id := s.n) ⟨w.heap.size, 0, 0⟩ hd
  have hold : ∀ j, D j → named β s.n ⟨w.heap.size, 0, 0⟩ j = β j := fun j hj => (hx.keep j hj).2
  have hlt : ∀ j k, s.h j = some k → (β j).blk < w.heap.size := fun j k hk => by
    obtain ⟨o, hb⟩ := (hr.hr.live j k hk).2.there
    rcases Nat.lt_or_ge (β j).blk w.heap.size with h' | h'
    · exact h'
    · rw [Array.getElem?_eq_none h'] at hb; cases hb
  refine ⟨named β s.n ⟨w.heap.size, 0, 0⟩, fun j => D j ∨ j = s.n, w.alloc (.map #[] 0), .map (some w.heap.size), by rw [hn]; exact hx, ⟨?_, hr.bel.alloc hr.hr.size _⟩, ?_, by simp [Instr.makeMap]⟩
  · rw [hh]
    refine ⟨fun j k hk => ?_, fun i j hi hj e => ?_, fun j hj => ?_, Nat.le_trans hr.hr.size (by simp)⟩
    · by_cases hj : j.num = s.n.num
      · obtain rfl := Id.num_inj hj
        simp only [Heap.put, if_true] at hk
        cases hk
        refine ⟨.inr rfl, ?_⟩
        unfold LiveB
        dsimp only [zm]
        refine ⟨rfl, #[], 0, ?_, ?_⟩
        · rw [named_same]; exact (MapKept.heap_alloc w _).1
        · exact clk_ok (es := []) (l := []) (by simp [mflat, VRs])
      · simp only [Heap.put, if_neg hj] at hk
        obtain ⟨h1, h2⟩ := hr.hr.live j k hk
        refine ⟨.inl h1, ?_⟩
        rw [hold j h1]
        exact h2.keep hx (Below.heap_alloc _ _ _ (hlt j k hk))
    · have alive : ∀ i, Heap.put s.h s.n (some ⟨zm (clk 0 []), []⟩) i ≠ none → i = s.n ∨ (D i ∧ ∃ k, s.h i = some k) := fun i hi => by
        by_cases hj : i.num = s.n.num
        · exact .inl (Id.num_inj hj)
        · simp only [Heap.put, if_neg hj] at hi
          cases hk : s.h i with
          | none => exact absurd hk hi
          | some k => exact .inr ⟨(hr.hr.live i k hk).1, k, rfl⟩
      rcases alive i hi with rfl | ⟨di, k, hk⟩
      · rcases alive j hj with rfl | ⟨dj, k', hk'⟩
        · rfl
        · rw [named_same, hold j dj] at e
          have := hlt j k' hk'
          simp only at e
          omega
      · rcases alive j hj with rfl | ⟨dj, k', hk'⟩
        · rw [named_same, hold i di] at e
          have := hlt i k hk
          simp only at e
          omega
        · rw [hold i di, hold j dj] at e
          exact hr.hr.inj i j (by rw [hk]; simp) (by rw [hk']; simp) e
    · rcases hj with hj | rfl
      · rw [hold j hj]; exact hr.hr.old j hj
      · rw [named_same]; exact hr.hr.size
  · simp only [VR]
    rw [named_same]
    first | exact ⟨.inr rfl, rfl⟩ | exact ⟨.inr trivial, rfl⟩ | exact ⟨.inr trivial, trivial⟩ | exact ⟨.inr rfl, trivial⟩
end
end Ev
end Go.Proofs.YthknbcbkibbncaaGreat

/- DERIVED. One operation of whatever kind: what the evaluator gives is what the model does. -/
namespace Go.Proofs.YthknbcbkibbncaaGreat
namespace Ev
open Go.RowKit

section
variable {P : Program} {Y : Ty} {β : Id → CA} {D : Id → Prop} {B N : Nat} {W w : World} {s s' u : S} {e : Env} {a : Act} {F : Fns}

theorem bi_some {α γ : Type} {x : Option α} {f : α → Option γ} {y : γ} (h : x.bind f = some y) : ∃ z, x = some z ∧ f z = some y := by
  cases x with
  | none => cases h
  | some z => exact ⟨z, rfl, h⟩

theorem mapD_ok {t : TypeId} {ke : TypeId × TypeId} (h : (under Y t).bind mapD = some ke) : under Y t = some (.map ke.1 ke.2) := by
  obtain ⟨d, hd, h⟩ := bi_some h
  cases d <;> simp only [mapD] at h <;> first | (cases h; done) | skip
  cases h
  exact hd
theorem exec_builtin {o : Oper} {c : Call} {b : Builtin} (ho : o.op = .call c) (hc : c.callee = .builtin b) : ∃ cs, execOp a.eval o = builtin b c.argTypes o.type cs (c.args.map a.eval) := by
  refine ⟨c.args.map fun | .const _ => true | _ => false, ?_⟩
  unfold execOp
  rw [ho]
  simp only [resolve, hc]
  rfl
theorem wp_builtin {o : Oper} {v : AV} {m : Sem Value} {b : Builtin} {c : Call} (ho : o.op = .call c) (hc : c.callee = .builtin b) (hb : ∀ cs, builtin b c.argTypes o.type cs (c.args.map a.eval) = (do pure (.value (← m)))) (hg : Gives P β D B W s s' v m w) {K : Act → World → Prop} {Q : Exit → Act → World → Prop}
    (hK : Goes β D B W s s' v fun V w' => K (a.put o.dst V) w') : o.wp P a w K Q := by
  obtain ⟨cs, hex⟩ := exec_builtin (a := a) ho hc
  exact wp_gives (by rw [hex]; exact hb cs) hg hK

theorem builtin_ok (hY : TyOk P Y) (hr : Rel β D B W s.h w) (he : ER β D N e a) {o : Oper} {c : Call} {b : Builtin} (ho : o.op = .call c) (hcal : c.callee = .builtin b) {po : PO} (hc : cBuiltin Y b c.argTypes.toList c.args.toList = some po) {v : AV}
    (h : poR po F e s = some (v, s')) (hfr : Fresh D s.n.num s'.n.num) {K : Act → World → Prop} {Q : Exit → Act → World → Prop} (hK : Goes β D B W s s' v fun V w' => K (a.put o.dst V) w') : o.wp P a w K Q := by
  obtain ⟨ts⟩ : ∃ ts, ts = c.argTypes.toList := ⟨_, rfl⟩
  have hts : c.argTypes = c.argTypes.toList.toArray := by simp
  have hxs : c.args = c.args.toList.toArray := by simp
  generalize c.argTypes.toList = ts at hc hts
  generalize c.args.toList = xs at hc hxs
  have hmap : c.args.map a.eval = (xs.map a.eval).toArray := by rw [hxs]; simp
  cases b <;> simp only [cBuiltin] at hc <;> try (cases hc; done)
  · -- append
    match ts, xs, hc with
    | [sT, xT], [sx, x], hc =>
      simp only [cApp] at hc
      obtain ⟨el, hel, hc⟩ := bi_some hc
      obtain ⟨i, hi, hc⟩ := bi_some hc
      obtain ⟨_, hk, hc⟩ := bi_some hc
      obtain ⟨d, hd, hc⟩ := bi_some hc
      obtain ⟨z, hz, hc⟩ := bi_some hc
      obtain ⟨cs, hcs, hc⟩ := bi_some hc
      obtain ⟨s1, hs1, hc⟩ := bi_some hc
      obtain ⟨x1, hx1, hc⟩ := bi_some hc
      have hk' := guardB_some hk
      refine wp_builtin ho hcal (m := Builtin.append_ #[sT, xT] o.type #[a.eval sx, a.eval x]) (fun cs => ?_) ?_ hK
      · rw [hmap, hts]; rfl
      · cases d <;> simp only at hc <;> try (cases hc; done)
        · cases hc; exact apz_ok hY hr hel hi hk' hd hcs h (arg_ok he hs1) (arg_ok he hx1) hfr
        · cases hc; exact app_ok hY hr hel hi hk' hd (.inl rfl) hcs h (arg_ok he hs1) (arg_ok he hx1) hfr
        · cases hc; exact app_ok hY hr hel hi hk' hd (.inr ⟨_, rfl⟩) hcs h (arg_ok he hs1) (arg_ok he hx1) hfr
  · -- cap
    match ts, xs, hc with
    | [t], [x], hc =>
      simp only [cCap] at hc
      obtain ⟨d, hd, hc⟩ := bi_some hc
      obtain ⟨x1, hx1, hc⟩ := bi_some hc
      refine wp_builtin ho hcal (m := Builtin.cap_ #[t] o.type #[a.eval x]) (fun cs => ?_) ?_ hK
      · rw [hmap, hts]; rfl
      · cases d <;> simp only at hc <;> try (cases hc; done)
        · cases hc; exact cap_ok hr (under_ok hY hd) h (arg_ok he hx1)
        · cases hc
          obtain ⟨rfl, rfl⟩ := pure_some h
          exact capA_ok hr (under_ok hY hd)
  · -- clear
    match ts, xs, hc with
    | [t], [x], hc =>
      obtain ⟨el, hel, hc⟩ := bi_some hc
      obtain ⟨cs, hcs, hc⟩ := bi_some hc
      obtain ⟨x1, hx1, hc⟩ := bi_some hc
      cases hc
      refine wp_builtin ho hcal (m := Builtin.clear_ #[t] o.type #[a.eval x]) (fun cs => ?_) ?_ hK
      · rw [hmap, hts]; rfl
      · exact clr_ok hY hr hel hcs h (arg_ok he hx1)
  · -- copy
    match ts, xs, hc with
    | [dT, sT], [d, x], hc =>
      obtain ⟨el, hel, hc⟩ := bi_some hc
      obtain ⟨z, hz, hc⟩ := bi_some hc
      obtain ⟨d1, hd1, hc⟩ := bi_some hc
      obtain ⟨x1, hx1, hc⟩ := bi_some hc
      cases hc
      refine wp_builtin ho hcal (m := Builtin.copy_ #[dT, sT] o.type #[a.eval d, a.eval x]) (fun cs => ?_) ?_ hK
      · rw [hmap, hts]; rfl
      · exact cpy_ok hY hr hel hz h (arg_ok he hd1) (arg_ok he hx1)
  · -- delete
    match ts, xs, hc with
    | t :: ts, [x, k], hc =>
      simp only [cDel] at hc
      obtain ⟨ke, hke, hc⟩ := bi_some hc
      obtain ⟨q, hq, hc⟩ := bi_some hc
      obtain ⟨x1, hx1, hc⟩ := bi_some hc
      obtain ⟨k1, hk1, hc⟩ := bi_some hc
      cases hc
      refine wp_builtin ho hcal (m := Builtin.delete_ (t :: ts).toArray o.type #[a.eval x, a.eval k]) (fun cs => ?_) ?_ hK
      · rw [hmap, hts]; rfl
      · exact del_ok hY hr (mapD_ok hke) hq h (arg_ok he hx1) (arg_ok he hk1)
  · -- len
    match ts, xs, hc with
    | [t], [x], hc =>
      simp only [cLen] at hc
      obtain ⟨d, hd, hc⟩ := bi_some hc
      obtain ⟨x1, hx1, hc⟩ := bi_some hc
      refine wp_builtin ho hcal (m := Builtin.len_ #[t] o.type #[a.eval x]) (fun cs => ?_) ?_ hK
      · rw [hmap, hts]; rfl
      · cases d <;> simp only at hc <;> try (cases hc; done)
        · cases hc; exact lns_ok hr (under_ok hY hd) h (arg_ok he hx1)
        · cases hc; exact len_ok hr (under_ok hY hd) h (arg_ok he hx1)
        · cases hc
          obtain ⟨rfl, rfl⟩ := pure_some h
          exact lenA_ok hr (under_ok hY hd)
        · cases hc; exact lnm_ok hY hr hd h (arg_ok he hx1)
  · -- max
    match xs, hc with
    | x :: l, hc =>
      obtain ⟨x1, hx1, hc⟩ := bi_some hc
      obtain ⟨l1, hl1, hc⟩ := bi_some hc
      cases hc
      obtain ⟨hm, rfl⟩ := ofO_pure h
      obtain ⟨V, hV, hrun⟩ := mm_ok (P := P) (w := w) true _ _ _ _ _ hm (args_ok he hl1) (arg_ok he hx1)
      refine wp_builtin ho hcal (m := Builtin.max_ c.argTypes o.type (c.args.map a.eval)) (fun cs => rfl) (Gives.same hr hV ?_) hK
      rw [hmap]
      simpa [Builtin.max_] using hrun
  · -- min
    match xs, hc with
    | x :: l, hc =>
      obtain ⟨x1, hx1, hc⟩ := bi_some hc
      obtain ⟨l1, hl1, hc⟩ := bi_some hc
      cases hc
      obtain ⟨hm, rfl⟩ := ofO_pure h
      obtain ⟨V, hV, hrun⟩ := mm_ok (P := P) (w := w) false _ _ _ _ _ hm (args_ok he hl1) (arg_ok he hx1)
      refine wp_builtin ho hcal (m := Builtin.min_ c.argTypes o.type (c.args.map a.eval)) (fun cs => rfl) (Gives.same hr hV ?_) hK
      rw [hmap]
      simpa [Builtin.min_] using hrun
end
end Ev
end Go.Proofs.YthknbcbkibbncaaGreat

/- DERIVED. One operation: what the evaluator gives is what the model does, whatever the operation. -/
namespace Go.Proofs.YthknbcbkibbncaaGreat
namespace Ev
open Go.RowKit

section
variable {P : Program} {Y : Ty} {β : Id → CA} {D : Id → Prop} {B N : Nat} {W w : World} {s s' u : S} {e : Env} {a : Act} {F : Fns}

theorem gives_eq {v : AV} {m m' : Sem Value} (h : m = m') (hg : Gives P β D B W s s' v m w) : Gives P β D B W s s' v m' w := h ▸ hg
theorem op_ok (hY : TyOk P Y) (hF : FnOk P F) (hr : Rel β D B W s.h w) (he : ER β D N e a) {o : Oper} {po : PO} (hc : cOp Y o.op = some po) {v : AV}
    (h : poR po F e s = some (v, s')) (hfr : Fresh D s.n.num s'.n.num) {K : Act → World → Prop} {Q : Exit → Act → World → Prop} (hK : Goes β D B W s s' v fun V w' => K (a.put o.dst V) w') : o.wp P a w K Q := by
  have direct : ∀ {V : Value}, execOp a.eval o = pure (.value V) → v = v → s' = s → VR β D v V → o.wp P a w K Q := fun {V} hex _ hs hv => by
    subst hs
    unfold Oper.wp
    rw [hex]
    exact hK β D w V (Ext.refl _ _ _) hr hv
  cases ho : o.op <;> rw [ho] at hc <;> simp only [cOp] at hc <;> try (cases hc; done)
  · -- move
    obtain ⟨x1, hx1, hc⟩ := bi_some hc
    cases hc
    obtain ⟨rfl, rfl⟩ := pure_some h
    exact direct (by unfold execOp; rw [ho]) rfl rfl (arg_ok he hx1)
  · obtain ⟨x1, hx1, hc⟩ := bi_some hc
    cases hc
    obtain ⟨rfl, rfl⟩ := pure_some h
    exact direct (by unfold execOp; rw [ho]) rfl rfl (arg_ok he hx1)
  · -- pick
    rename_i c x y
    obtain ⟨c1, hc1, hc⟩ := bi_some hc
    obtain ⟨a1, ha1, hc⟩ := bi_some hc
    obtain ⟨b1, hb1, hc⟩ := bi_some hc
    cases hc
    have hg := pick_ok (P := P) hr h (arg_ok he hc1) (arg_ok he ha1) (arg_ok he hb1)
    obtain ⟨β', D', w', V, h1, h2, h3, h4⟩ := hg
    unfold Oper.wp
    have hex : (execOp a.eval o).run P w = .ok (.value V) w' := by
      unfold execOp
      rw [ho]
      simp only [Sem.run_bind] at h4 ⊢
      cases hq : (asBool (a.eval c)).run P w with
      | halt x w2 => rw [hq] at h4; cases h4
      | ok t w2 =>
        rw [hq] at h4
        simp only [Result.andThen_ok, Sem.run_pure] at h4 ⊢
        cases h4
        rfl
    rw [hex]
    exact hK β' D' w' V h1 h2 h3
  · -- alloc
    rename_i t
    obtain ⟨z, hz, hc⟩ := bi_some hc
    obtain ⟨cs, hcs, hc⟩ := bi_some hc
    cases hc
    obtain ⟨i, zv, hi', hz', hzr, hzv, o1, hlen, hYt⟩ := zeroT_ok hY hcs β D
    have hg := new_gives (P := P) hr h hfr hzv o1 t
    refine wp_gives (m := Instr.alloc t true (.tuple #[])) (by unfold execOp; rw [ho]) ?_ hK
    obtain ⟨β', D', w', V, h1, h2, h3, h4⟩ := hg
    exact ⟨β', D', w', V, h1, h2, h3, by simpa [Instr.alloc, hzr] using h4⟩
  · -- box
    rename_i t x
    obtain ⟨z, hz, hc⟩ := bi_some hc
    obtain ⟨x1, hx1, hc⟩ := bi_some hc
    cases hc
    obtain ⟨l, hl, h2⟩ := ofO_some h
    obtain ⟨k1, k2⟩ := (arg_ok he hx1).cells hl
    exact wp_gives (m := Instr.box t (a.eval x)) (by unfold execOp; rw [ho]) (new_gives (P := P) hr h2 hfr k1 k2 t) hK
  · -- build
    rename_i t parts
    have hc' := hc
    simp only [cBuild] at hc'
    obtain ⟨d, hd, hc'⟩ := bi_some hc'
    obtain ⟨cs, hcs, hc'⟩ := bi_some hc'
    have hpo : ∃ cs ps, po = .build cs ps := by
      cases d <;> simp only at hc' <;> try (cases hc'; done)
      · obtain ⟨m, hm, hc'⟩ := bi_some hc'
        obtain ⟨ps, hps, hc'⟩ := bi_some hc'
        cases hc'
        exact ⟨_, _, rfl⟩
      · obtain ⟨pl, hpl, hc'⟩ := bi_some hc'
        obtain ⟨ps, hps, hc'⟩ := bi_some hc'
        cases hc'
        exact ⟨_, _, rfl⟩
    obtain ⟨cs, ps, rfl⟩ := hpo
    exact wp_gives (by unfold execOp; rw [ho]) (build_ok hY hr he hc h) hK
  · -- buildSlice
    have hc' := hc
    simp only [cBsl] at hc'
    obtain ⟨el, hel, hc'⟩ := bi_some hc'
    obtain ⟨m, hm, hc'⟩ := bi_some hc'
    obtain ⟨_, hg, hc'⟩ := bi_some hc'
    obtain ⟨z, hz, hc'⟩ := bi_some hc'
    obtain ⟨cs, hcs, hc'⟩ := bi_some hc'
    obtain ⟨ps, hps, hc'⟩ := bi_some hc'
    cases hc'
    exact wp_gives (by unfold execOp; rw [ho]) (bsl_ok hY hr he hc h hfr) hK
  · -- insert
    rename_i t x k y
    simp only [cMup] at hc
    obtain ⟨ke, hke, hc⟩ := bi_some hc
    obtain ⟨q, hq, hc⟩ := bi_some hc
    obtain ⟨x1, hx1, hc⟩ := bi_some hc
    obtain ⟨k1, hk1, hc⟩ := bi_some hc
    obtain ⟨y1, hy1, hc⟩ := bi_some hc
    cases hc
    obtain ⟨w', h1, rfl, h3, h4⟩ := up_ok hY hr (mapD_ok hke) hq h (arg_ok he hx1) (arg_ok he hk1) (arg_ok he hy1)
    unfold Oper.wp
    have hex : (execOp a.eval o).run P w = .ok .skip w' := by
      unfold execOp
      rw [ho]
      simp only [Sem.run_bind, h4, Result.andThen_ok, Sem.run_pure]
    rw [hex]
    exact hK β D w' undef (by rw [h3]; exact Ext.refl _ _ _) h1 VR.und
  · -- load
    rename_i t x
    simp only [cLoad] at hc
    obtain ⟨d, hd, hc⟩ := bi_some hc
    obtain ⟨m, hm, hc⟩ := bi_some hc
    obtain ⟨x1, hx1, hc⟩ := bi_some hc
    cases hagg : isAggD d <;> rw [hagg] at hc <;> simp only at hc <;> cases hc
    · exact wp_gives (by unfold execOp; rw [ho]) (ld_ok hY hr hd hagg h (arg_ok he hx1)) hK
    · exact wp_gives (by unfold execOp; rw [ho]) (ldn_ok hY hr hd hagg hm h (arg_ok he hx1)) hK
  · -- store
    rename_i t x y
    obtain ⟨m, hm, hc⟩ := bi_some hc
    obtain ⟨x1, hx1, hc⟩ := bi_some hc
    obtain ⟨y1, hy1, hc⟩ := bi_some hc
    cases hc
    obtain ⟨w', h1, rfl, h3, h4⟩ := st_ok hY hr hm h (arg_ok he hx1) (arg_ok he hy1)
    unfold Oper.wp
    have hex : (execOp a.eval o).run P w = .ok .skip w' := by
      unfold execOp
      rw [ho]
      simp only [Sem.run_bind, h4, Result.andThen_ok, Sem.run_pure]
    rw [hex]
    exact hK β D w' undef (by rw [h3]; exact Ext.refl _ _ _) h1 VR.und
  · -- nilCheck
    rename_i x
    obtain ⟨x1, hx1, hc⟩ := bi_some hc
    cases hc
    obtain ⟨rfl, rfl, hx⟩ := nil_ok hr h (arg_ok he hx1)
    refine direct (V := a.eval x) ?_ rfl rfl (arg_ok he hx1)
    unfold execOp
    rw [ho]
    rcases hx with ⟨ad, hx⟩ | ⟨fn, A, C, hx⟩ <;> simp only [hx]
  · -- binOp
    rename_i op t x y yt
    have hex : execOp a.eval o = (do pure (.value (← (do eqGuard op t x y (a.eval x) (a.eval y); binOp op t (a.eval x) (a.eval y) : Sem Value)))) := by unfold execOp; rw [ho]
    have num : ∀ {x1 y1 : Arg}, cA x = some x1 → cA y = some y1 → binF op (arg x1 e) (arg y1 e) s = some (v, s') → o.wp P a w K Q := fun hx1 hy1 h => wp_gives hex (bin_ok hr h (arg_ok he hx1) (arg_ok he hy1)) hK
    have eqc : ∀ (op' : BinOp) (ng : Bool), op = op' → EqOp op' ng → cEq Y op' ng t x y = some po → o.wp P a w K Q := by
      intro op' ng hop hq hc
      subst hop
      simp only [cEq] at hc
      obtain ⟨d, hd, hc⟩ := bi_some hc
      obtain ⟨x1, hx1, hc⟩ := bi_some hc
      obtain ⟨y1, hy1, hc⟩ := bi_some hc
      cases hn : numD d <;> rw [hn] at hc <;> simp only at hc
      · obtain ⟨kd, hkd, hc⟩ := bi_some hc
        cases hc
        exact wp_gives hex (eq_ok hY hr hq hd hkd h (arg_ok he hx1) (arg_ok he hy1)) hK
      · cases hc
        exact num hx1 hy1 h
    cases op <;> simp only [cBin] at hc <;> first
      | exact eqc .eql false rfl (.inl ⟨rfl, rfl⟩) hc
      | exact eqc .neq true rfl (.inr ⟨rfl, rfl⟩) hc
      | (obtain ⟨x1, hx1, hc⟩ := bi_some hc
         obtain ⟨y1, hy1, hc⟩ := bi_some hc
         cases hc
         exact num hx1 hy1 h)
  · -- unOp
    rename_i op t x
    obtain ⟨x1, hx1, hc⟩ := bi_some hc
    cases hc
    exact wp_gives (by unfold execOp; rw [ho]) (un_ok hr h (arg_ok he hx1)) hK
  · -- convert
    rename_i sT dT x
    simp only [cConv] at hc
    obtain ⟨sd, hsd, hc⟩ := bi_some hc
    obtain ⟨dd, hdd, hc⟩ := bi_some hc
    obtain ⟨x1, hx1, hc⟩ := bi_some hc
    have hs' := under_ok hY hsd
    have hd' := under_ok hY hdd
    have hex : execOp a.eval o = (do pure (.value (← convert sT dT (a.eval x)))) := by unfold execOp; rw [ho]
    cases sd <;> simp only at hc <;> try (cases hc; done)
    · cases dd <;> simp only at hc <;> try (cases hc; done)
      cases hc
      obtain ⟨k', n, hX, hg⟩ := cvi_ok (P := P) hr h (arg_ok he hx1)
      refine wp_gives hex ?_ hK
      obtain ⟨β', D', w', V, h1, h2, h3, h4⟩ := hg
      exact ⟨β', D', w', V, h1, h2, h3, by rw [hX]; simpa [convert, run_underlying hs', run_underlying hd'] using h4⟩
    · cases dd <;> simp only at hc <;> try (cases hc; done)
      · cases hc
        have hx := arg_ok he hx1
        simp only [poR] at h
        cases hq : arg x1 e <;> rw [hq] at h hx <;> first | (simp only [cvsF, M.no] at h; cases h; done) | skip
        obtain ⟨rfl, rfl⟩ := pure_some h
        have hx' := hx
        simp only [VR] at hx'
        refine wp_gives hex (Gives.same hr hx ?_) hK
        rw [hx'.1]
        simp [convert, run_underlying hs', run_underlying hd']
      · obtain ⟨z, hz, hc⟩ := bi_some hc
        obtain ⟨_, hb, hc⟩ := bi_some hc
        cases hc
        obtain rfl := guardB_some hb
        exact wp_gives hex (cvb_ok hr hs' hd' (byteT_ok hY hz) h (arg_ok he hx1) hfr) hK
    · cases dd <;> simp only at hc <;> try (cases hc; done)
      · obtain ⟨z, hz, hc⟩ := bi_some hc
        obtain ⟨_, hb, hc⟩ := bi_some hc
        cases hc
        obtain rfl := guardB_some hb
        exact wp_gives hex (cvt_ok hr hs' hd' (byteT_ok hY hz) h (arg_ok he hx1)) hK
      · obtain ⟨z, hz, hc⟩ := bi_some hc
        obtain ⟨_, hb, hc⟩ := bi_some hc
        obtain ⟨_, hsd2, hc⟩ := bi_some hc
        cases hc
        obtain rfl := guardB_some hb
        obtain rfl : sT = dT := Nat.eq_of_beq_eq_true (guardB_some hsd2)
        exact wp_gives hex (cvm_ok hr hs' hd' (byteT_ok hY hz) h (arg_ok he hx1)) hK
  · -- sliceToArrayPointer
    rename_i t x
    simp only [cSap] at hc
    obtain ⟨d, hd, hc⟩ := bi_some hc
    obtain ⟨x1, hx1, hc⟩ := bi_some hc
    cases d <;> simp only at hc <;> try (cases hc; done)
    cases hc
    exact wp_gives (by unfold execOp; rw [ho]) (sap_ok hY hr hd h (arg_ok he hx1)) hK
  · -- makeInterface
    cases hc
    exact (no_some (s := s) h).elim
  · -- makeFunc
    rename_i fn first cap
    cases fn <;> simp only [cMkf] at hc <;> try (cases hc; done)
    rename_i g
    obtain ⟨x1, hx1, hc⟩ := bi_some hc
    obtain ⟨y1, hy1, hc⟩ := bi_some hc
    cases hc
    obtain ⟨rfl, rfl⟩ := pure_some h
    obtain ⟨L1, l1, e1⟩ := cAs_ok he hx1
    obtain ⟨L2, l2, e2⟩ := cAs_ok he hy1
    refine wp_gives (m := Instr.makeFunc (.func g) (first.map a.eval) (cap.map a.eval)) (by unfold execOp; rw [ho]) (Gives.same hr (V := .func (.func g) L1.toArray L2.toArray) ?_ ?_) hK
    · simp only [VR]; exact ⟨L1, L2, rfl, l1, l2⟩
    · rw [e1, e2]; rfl
  · -- makeMap
    rename_i t r
    obtain ⟨d, hd, hc⟩ := bi_some hc
    cases r with
    | some r => cases hc
    | none =>
      cases hc
      exact wp_gives (by unfold execOp; rw [ho]; rfl) (mkm_ok (P := P) hr hfr (t := t) h) hK
  · -- makeSlice
    rename_i t l c
    simp only [cMks] at hc
    obtain ⟨el, hel, hc⟩ := bi_some hc
    obtain ⟨i, hi, hc⟩ := bi_some hc
    obtain ⟨_, hb, hc⟩ := bi_some hc
    obtain ⟨z, hz, hc⟩ := bi_some hc
    obtain ⟨cs, hcs, hc⟩ := bi_some hc
    obtain ⟨l1, hl1, hc⟩ := bi_some hc
    obtain ⟨c1, hc1, hc⟩ := bi_some hc
    cases hc
    exact wp_gives (by unfold execOp; rw [ho]) (mks_ok hY hr hel hi (guardB_some hb) hcs h (arg_ok he hl1) (arg_ok he hc1) hfr) hK
  · -- slice
    rename_i t x lo hi mx
    simp only [cSlice] at hc
    obtain ⟨d, hd, hc⟩ := bi_some hc
    obtain ⟨x1, hx1, hc⟩ := bi_some hc
    obtain ⟨lo1, hlo1, hc⟩ := bi_some hc
    obtain ⟨hi1, hhi1, hc⟩ := bi_some hc
    obtain ⟨mx1, hmx1, hc⟩ := bi_some hc
    obtain ⟨_, hb, hc⟩ := bi_some hc
    have hm := guardB_some hb
    have hm' : ((argO mx1 e).isNone || (argO hi1 e).isSome) = true := by rw [argO_none.1, argO_none.2]; exact hm
    have hu := under_ok hY hd
    have hex : execOp a.eval o = (do pure (.value (← Instr.sliceAt t (a.eval x) (lo.map a.eval) (hi.map a.eval) (mx.map a.eval)))) := by unfold execOp; rw [ho]
    cases d <;> simp only at hc <;> try (cases hc; done)
    · obtain ⟨_, hn, hc⟩ := bi_some hc
      cases hc
      have hn' := guardB_some hn
      cases mx1 with
      | some q => cases hn'
      | none =>
        have h3 := cO_ok he hmx1
        have h3' : mx.map a.eval = none := h3
        rw [h3'] at hex
        exact wp_gives hex (slt_ok hr hu h (arg_ok he hx1) (cO_ok he hlo1) (cO_ok he hhi1)) hK
    · obtain ⟨z, hz, hc⟩ := bi_some hc
      cases hc
      exact wp_gives hex (sls_ok hY hr hu hz h (arg_ok he hx1) (cO_ok he hlo1) (cO_ok he hhi1) (cO_ok he hmx1) hm') hK
    · obtain ⟨z, hz, hc⟩ := bi_some hc
      cases hc
      exact wp_gives hex (sla_ok hY hr hu hz h (arg_ok he hx1) (cO_ok he hlo1) (cO_ok he hhi1) (cO_ok he hmx1) hm') hK
  · -- fieldAddr
    rename_i t x j
    simp only [cFad] at hc
    obtain ⟨d, hd, hc⟩ := bi_some hc
    obtain ⟨x1, hx1, hc⟩ := bi_some hc
    cases d <;> simp only at hc <;> try (cases hc; done)
    obtain ⟨f, hf, hc⟩ := bi_some hc
    obtain ⟨m, hm, hc⟩ := bi_some hc
    obtain ⟨_, hb, hc⟩ := bi_some hc
    cases hc
    exact wp_gives (by unfold execOp; rw [ho]) (fad_ok hY hr hd hf hm (Nat.le_of_ble_eq_true (guardB_some hb)) h (arg_ok he hx1)) hK
  · -- field
    rename_i t x j
    simp only [cFld] at hc
    obtain ⟨d, hd, hc⟩ := bi_some hc
    obtain ⟨x1, hx1, hc⟩ := bi_some hc
    cases d <;> simp only at hc <;> try (cases hc; done)
    obtain ⟨f, hf, hc⟩ := bi_some hc
    obtain ⟨fd, hfd, hc⟩ := bi_some hc
    obtain ⟨m, hm, hc⟩ := bi_some hc
    obtain ⟨_, hb, hc⟩ := bi_some hc
    cases hc
    exact wp_gives (by unfold execOp; rw [ho]) (fld_ok hY hr hd hf hfd hm h (arg_ok he hx1)) hK
  · -- indexAddr
    rename_i t x ix
    simp only [cIx] at hc
    obtain ⟨d, hd, hc⟩ := bi_some hc
    obtain ⟨x1, hx1, hc⟩ := bi_some hc
    obtain ⟨i1, hi1, hc⟩ := bi_some hc
    cases d <;> simp only at hc <;> try (cases hc; done)
    · obtain ⟨z, hz, hc⟩ := bi_some hc
      cases hc
      exact wp_gives (by unfold execOp; rw [ho]) (ixs_ok hY hr (under_ok hY hd) hz h (arg_ok he hx1) (arg_ok he hi1)) hK
    · obtain ⟨z, hz, hc⟩ := bi_some hc
      cases hc
      exact wp_gives (by unfold execOp; rw [ho]) (ixa_ok hY hr (under_ok hY hd) hz h (arg_ok he hx1) (arg_ok he hi1)) hK
  · -- index
    rename_i t x ix
    simp only [cIdx] at hc
    obtain ⟨d, hd, hc⟩ := bi_some hc
    obtain ⟨x1, hx1, hc⟩ := bi_some hc
    obtain ⟨i1, hi1, hc⟩ := bi_some hc
    cases d <;> simp only at hc <;> try (cases hc; done)
    · cases hc
      exact wp_gives (by unfold execOp; rw [ho]) (ixt_ok hY hr hd h (arg_ok he hx1) (arg_ok he hi1)) hK
    · obtain ⟨ed, hed, hc⟩ := bi_some hc
      obtain ⟨z, hz, hc⟩ := bi_some hc
      obtain ⟨_, hb, hc⟩ := bi_some hc
      cases hc
      exact wp_gives (by unfold execOp; rw [ho]) (idx_ok hY hr hd hed hz h (arg_ok he hx1) (arg_ok he hi1)) hK
  · -- lookup
    rename_i t x k ok
    simp only [cLkm] at hc
    obtain ⟨ke, hke, hc⟩ := bi_some hc
    obtain ⟨q, hq, hc⟩ := bi_some hc
    obtain ⟨z, hz, hc⟩ := bi_some hc
    obtain ⟨x1, hx1, hc⟩ := bi_some hc
    obtain ⟨k1, hk1, hc⟩ := bi_some hc
    cases hc
    exact wp_gives (by unfold execOp; rw [ho]) (lk_ok hY hr (mapD_ok hke) hq hz h (arg_ok he hx1) (arg_ok he hk1)) hK
  · -- mapUpdate
    rename_i t x k y
    simp only [cMup] at hc
    obtain ⟨ke, hke, hc⟩ := bi_some hc
    obtain ⟨q, hq, hc⟩ := bi_some hc
    obtain ⟨x1, hx1, hc⟩ := bi_some hc
    obtain ⟨k1, hk1, hc⟩ := bi_some hc
    obtain ⟨y1, hy1, hc⟩ := bi_some hc
    cases hc
    obtain ⟨w', h1, rfl, h3, h4⟩ := up_ok hY hr (mapD_ok hke) hq h (arg_ok he hx1) (arg_ok he hk1) (arg_ok he hy1)
    unfold Oper.wp
    have hex : (execOp a.eval o).run P w = .ok .skip w' := by
      unfold execOp
      rw [ho]
      simp only [Sem.run_bind, h4, Result.andThen_ok, Sem.run_pure]
    rw [hex]
    exact hK β D w' undef (by rw [h3]; exact Ext.refl _ _ _) h1 VR.und
  · -- mapEntry
    rename_i t x k
    simp only [cMen] at hc
    obtain ⟨ke, hke, hc⟩ := bi_some hc
    obtain ⟨q, hq, hc⟩ := bi_some hc
    obtain ⟨z, hz, hc⟩ := bi_some hc
    obtain ⟨x1, hx1, hc⟩ := bi_some hc
    obtain ⟨k1, hk1, hc⟩ := bi_some hc
    cases hc
    exact wp_gives (by unfold execOp; rw [ho]) (en_ok hY hr (mapD_ok hke) hq hz h (arg_ok he hx1) (arg_ok he hk1)) hK
  · -- entryStore
    rename_i t x b y
    obtain ⟨x1, hx1, hc⟩ := bi_some hc
    obtain ⟨b1, hb1, hc⟩ := bi_some hc
    obtain ⟨y1, hy1, hc⟩ := bi_some hc
    cases hc
    obtain ⟨w', h1, rfl, h3, h4⟩ := es_ok (P := P) hr (t := t) h (arg_ok he hx1) (arg_ok he hb1) (arg_ok he hy1)
    unfold Oper.wp
    have hex : (execOp a.eval o).run P w = .ok .skip w' := by
      unfold execOp
      rw [ho]
      simp only [Sem.run_bind, h4, Result.andThen_ok, Sem.run_pure]
    rw [hex]
    exact hK β D w' undef (by rw [h3]; exact Ext.refl _ _ _) h1 VR.und
  · -- extract
    rename_i x j
    obtain ⟨x1, hx1, hc⟩ := bi_some hc
    cases hc
    exact wp_gives (by unfold execOp; rw [ho]) (ext_ok hr h (arg_ok he hx1)) hK
  · -- call
    rename_i c
    simp only [cCall] at hc
    cases hcal : c.callee <;> rw [hcal] at hc <;> simp only at hc <;> try (cases hc; done)
    · obtain ⟨f1, hf1, hc⟩ := bi_some hc
      obtain ⟨l1, hl1, hc⟩ := bi_some hc
      cases hc
      exact call_ok hF hr he ho hcal hf1 hl1 h hfr hK
    · exact builtin_ok hY hr he ho hcal hc h hfr hK
  · -- panic
    cases hc
    exact (no_some (s := s) h).elim
end
end Ev
end Go.Proofs.YthknbcbkibbncaaGreat

/- DERIVED. Rows of operations in order, and the code's forms: what the evaluator gives is what the model does. -/
namespace Go.Proofs.YthknbcbkibbncaaGreat
namespace Ev
open Go.RowKit

section
variable {P : Program} {Y : Ty} {β : Id → CA} {D : Id → Prop} {B N : Nat} {W w : World} {s s' u : S} {e : Env} {a : Act} {F : Fns}

theorem wanted_ok (he : ER β D N e a) {ops : Array Oper} {o : Oper} {g : Option (Nat × Bool)} (h : cG N ops.toList o.guard = some g) : Region.wanted o (yielded ops a.tmps) = wanted g e := by
  cases hg : o.guard with
  | none =>
    rw [hg] at h
    simp only [cG] at h
    cases h
    simp [Region.wanted, hg, wanted]
  | some jw =>
    rw [hg] at h
    simp only [cG] at h
    obtain ⟨o', ho', h⟩ := bi_some h
    obtain ⟨gd, hgd, h⟩ := bi_some h
    obtain ⟨_, hb, h⟩ := bi_some h
    cases h
    have hlt : gd < N := Nat.le_of_ble_eq_true (guardB_some hb)
    have hV := he.at_ gd
    have hget : a.tmps[gd]? = some (a.tmps.getD gd undef) := by
      have hs : gd < a.tmps.size := Nat.lt_of_lt_of_le hlt he.size
      rw [Array.getD_eq_getD_getElem?, Array.getElem?_eq_getElem hs]
      rfl
    have hy : yielded ops a.tmps jw.1 = match a.tmps.getD gd undef with | .bool b => some b | _ => none := by
      unfold yielded
      have ho2 : ops[jw.1]? = some o' := by simpa using ho'
      rw [ho2]
      simp only [Option.bind_some, hgd]
      rw [hget]
      cases a.tmps.getD gd undef <;> rfl
    obtain ⟨j, want⟩ := jw
    simp only [Region.wanted, hg]
    rw [hy]
    simp only [wanted]
    generalize a.tmps.getD gd undef = V at hV
    cases hq : e gd with
    | b t =>
      rw [hq] at hV
      simp only [VR] at hV
      subst hV
      cases t <;> cases want <;> rfl
    | _ =>
      all_goals
        have hnb : ∀ t, V ≠ .bool t := fun t ht => by
          subst ht
          have := hV.bool
          rw [hq] at this
          cases this
        cases V <;> first | rfl | exact absurd rfl (hnb _)

theorem ps_ok (hY : TyOk P Y) (hF : FnOk P F) (hr : Rel β D B W s.h w) (he : ER β D N e a) {ops : Array Oper} {i : Nat} {o : Oper} {ps : PS} (ho : ops[i]? = some o) (hc : cS Y N ops.toList o = some ps) {v : AV}
    (h : psV ps F e s = some (v, s')) (hfr : Fresh D s.n.num s'.n.num) {K : Act → World → Prop} {Q : Exit → Act → World → Prop} (hK : Goes β D B W s s' v fun V w' => K (a.put o.dst V) w') : wpOp P ops Q i K a w := by
  simp only [cS] at hc
  obtain ⟨p, hp, hc⟩ := bi_some hc
  obtain ⟨g, hg, hc⟩ := bi_some hc
  obtain ⟨_, hd, hc⟩ := bi_some hc
  cases hc
  unfold wpOp
  simp only [ho]
  rw [wanted_ok he hg]
  simp only [psV] at h
  cases hw : wanted g e <;> rw [hw] at h <;> simp only at h
  · obtain ⟨rfl, rfl⟩ := pure_some h
    simp only [Bool.false_eq_true, if_false]
    exact hK β D w undef (Ext.refl _ _ _) hr VR.und
  · simp only [if_true]
    exact .inl (op_ok hY hF hr he hp h hfr hK)
theorem cS_dst {ops : List Oper} {o : Oper} {ps : PS} (hc : cS Y N ops o = some ps) : dstOk N o.dst = true ∧ ps.d = o.dst := by
  simp only [cS] at hc
  obtain ⟨p, hp, hc⟩ := bi_some hc
  obtain ⟨g, hg, hc⟩ := bi_some hc
  obtain ⟨_, hd, hc⟩ := bi_some hc
  cases hc
  exact ⟨guardB_some hd, rfl⟩

def GoesC (β : Id → CA) (D : Id → Prop) (B N : Nat) (W : World) (s s' : S) (e : Env) (K : Act → World → Prop) : Prop :=
  ∀ β' D' a' w', Ext β D β' D' s.n.num s'.n.num → Rel β' D' B W s'.h w' → ER β' D' N e a' → K a' w'
theorem GoesC.from {s1 s2 s3 : S} {β' : Id → CA} {D' : Id → Prop} {e' : Env} {K : Act → World → Prop} (h : GoesC β D B N W s1 s3 e' K) (hx : Ext β D β' D' s1.n.num s2.n.num) : GoesC β' D' B N W s2 s3 e' K :=
  fun β2 D2 a2 w2 hx2 hr he => h β2 D2 a2 w2 (hx.trans hx2) hr he

theorem Fresh.left {n n1 n2 : Nat} (h : Fresh D n n2) (h1 : n1 ≤ n2) : Fresh D n n1 := fun id a b => h id a (by omega)
theorem Fresh.right {β' : Id → CA} {D' : Id → Prop} {n n1 n2 : Nat} (h : Fresh D n n2) (hx : Ext β D β' D' n n1) : Fresh D' n1 n2 := fun id a b hd => by
  have := hx.le
  rcases hx.new id hd with h1 | h1
  · exact h id (by omega) b h1
  · omega
end
end Ev
end Go.Proofs.YthknbcbkibbncaaGreat

/- DERIVED. A region that draws its order: in whatever order, what the evaluator gives in its own. -/
namespace Go.Proofs.YthknbcbkibbncaaGreat
namespace Ev
open Go.RowKit

section
variable {P : Program} {Y : Ty} {β : Id → CA} {D : Id → Prop} {B N : Nat} {W w : World} {s s' u : S} {e e' : Env} {a : Act} {F : Fns}

theorem look_ext {h h' : Heap} (hl : ∀ id j, look h id j = look h' id j) : h = h' := by
  funext id
  cases hk : h id with
  | none =>
    cases hk' : h' id with
    | none => rfl
    | some k' => rw [blk_same hk' (fun j _ => hl id j)] at hk; cases hk
  | some k => exact (blk_same hk (fun j _ => (hl id j).symm)).symm

def up (l : Array Bool) (k : Nat) : Prop := l.getD k false = true

structure Inv (β₀ : Id → CA) (D₀ : Id → Prop) (B N : Nat) (W : World) (pl : List PS) (ms : List Nat) (E : Nat → Env) (H : Nat → Heap) (n : Nat → Id) (Ww : Nat → List Rng) (l : Array Bool) (β : Id → CA) (D : Id → Prop) (env : Env) (h : Heap) (a : Act) (w : World) : Prop where
  size : l.size = pl.length
  keep : ∀ id, D₀ id → D id ∧ β id = β₀ id
  ids : ∀ id, D id → D₀ id ∨ ∃ k, k < pl.length ∧ up l k ∧ (n k).num ≤ id.num ∧ id.num < (n (k + 1)).num
  rel : Rel β D B W h w
  er : ER β D N env a
  env : ∀ t m, m ≤ pl.length → (m = 0 ∨ up l (m - 1) ∧ ∃ o, pl[m - 1]? = some o ∧ o.d = some t) → (∀ k, k < pl.length → up l k → (∃ o, pl[k]? = some o ∧ o.d = some t) → k < m) → env t = E m t
  heap : ∀ id j m, m ≤ pl.length → (m = 0 ∨ up l (m - 1) ∧ cov (Ww (m - 1)) id j) → (∀ k, k < pl.length → up l k → cov (Ww k) id j → k < m) → look h id j = look (H m) id j
  closed : ∀ k, k < pl.length → up l k → ∀ p, Nat.testBit (ms[k]?.getD 0) p = true → up l p

theorem cSs_get {ops : List Oper} : ∀ {l : List Oper} {pl : List PS}, cSs Y N ops l = some pl → pl.length = l.length ∧ ∀ (k : Nat) (o : Oper), l[k]? = some o → ∃ ps, pl[k]? = some ps ∧ cS Y N ops o = some ps
  | [], pl, h => by simp only [cSs] at h; cases h; exact ⟨rfl, fun k o h => by simp at h⟩
  | o :: l, pl, h => by
    simp only [cSs] at h
    obtain ⟨x, hx, h⟩ := bi_some h
    obtain ⟨xs, hxs, h⟩ := bi_some h
    cases h
    obtain ⟨h1, h2⟩ := cSs_get hxs
    refine ⟨by simp [h1], fun k o' ho' => ?_⟩
    cases k with
    | zero => simp at ho'; subst ho'; exact ⟨x, by simp, hx⟩
    | succ k => simpa using h2 k o' (by simpa using ho')

theorem up_set {l : Array Bool} {i k : Nat} (hi : i < l.size) : up (l.setIfInBounds i true) k ↔ k = i ∨ up l k := by
  unfold up
  by_cases h : k = i
  · subst h
    simp [hi]
  · rw [getD_set_ne false (fun e => h e.symm)]
    simp [h]

theorem draw_any (hY : TyOk P Y) (hF : FnOk P F) (hL : LocF F) {ops : Array Oper} {pl : List PS} {ms : List Nat} (hms : ms = anc [] ops.toList) (hpl : cSs Y N ops.toList ops.toList = some pl) (hsl : slotsOk pl ms = true) (hbk : backOk 0 ops.toList = true)
    {E : Nat → Env} {H : Nat → Heap} {n : Nat → Id} {v : Nat → AV} {R Ww : Nat → List Rng} (st : Steps F pl ms 0 E H n v R Ww) (hfree : ∀ k, k < pl.length → FreeTo ⟨true, H k, n k, [], []⟩ ⟨true, H (k + 1), n (k + 1), [], []⟩) (hmono : ∀ k, k < pl.length → (n k).num ≤ (n (k + 1)).num)
    {β₀ : Id → CA} {D₀ : Id → Prop} (hfr : Fresh D₀ (n 0).num (n pl.length).num) {Q : Exit → Act → World → Prop}
    (hQ : ∀ β D a w, Ext β₀ D₀ β D (n 0).num (n pl.length).num → Rel β D B W (H pl.length) w → ER β D N (E pl.length) a → Q .normal a w) :
    ∀ (fuel : Nat) (l : Array Bool) (L : List Nat) (β : Id → CA) (D : Id → Prop) (env : Env) (h : Heap) (a : Act) (w : World), L.length = fuel → (∀ i, i < pl.length → ¬ up l i → i ∈ L) → Inv β₀ D₀ B N W pl ms E H n Ww l β D env h a w →
      wpAny P .any ops Q fuel l a w := by
  obtain ⟨hlen, hget⟩ := cSs_get hpl
  have hlen' : pl.length = ops.size := by simpa using hlen
  have mono2 : ∀ i j, i ≤ j → j ≤ pl.length → (n i).num ≤ (n j).num := by
    intro i j hij
    induction j with
    | zero => intro _; obtain rfl : i = 0 := (by omega); exact Nat.le_refl _
    | succ j ih =>
      intro hj
      by_cases h : i = j + 1
      · subst h; exact Nat.le_refl _
      · exact Nat.le_trans (ih (by omega) (by omega)) (hmono j (by omega))
  -- all have come up
  have full : ∀ {l : Array Bool} {β : Id → CA} {D : Id → Prop} {env : Env} {h : Heap} {a : Act} {w : World}, Inv β₀ D₀ B N W pl ms E H n Ww l β D env h a w → (∀ i, i < pl.length → up l i) → Q .normal a w := by
    intro l β D env h a w inv hall
    have he : env = E pl.length := by
      funext t
      obtain ⟨m, m1, m2, m3⟩ := last_of (fun k => ∃ o, pl[k]? = some o ∧ o.d = some t) pl.length
      have h1 := inv.env t m m1 (m2.imp (fun x => x) fun h => by
        have hk : m - 1 < pl.length := by obtain ⟨o, ho, _⟩ := h; exact (List.getElem?_eq_some_iff.1 ho).1
        exact ⟨hall _ hk, h⟩) (fun k hk _ h => m3 k hk h)
      rw [h1]
      -- no one writes it behind m
      have step : ∀ k, m ≤ k → k ≤ pl.length → E m t = E k t := by
        intro k hmk
        induction k with
        | zero => intro _; obtain rfl : m = 0 := (by omega); rfl
        | succ k ih =>
          intro hk
          by_cases hmk' : m = k + 1
          · rw [hmk']
          · rw [ih (by omega) (by omega)]
            have hkl : k < pl.length := by omega
            obtain ⟨_, hE⟩ := st.run k pl[k] (by simp [hkl])
            rw [hE]
            cases hd : pl[k].d with
            | none => rfl
            | some d =>
              simp only [putO]
              rw [if_neg]
              intro htd
              have := m3 k hkl ⟨pl[k], by simp [hkl], by rw [hd, htd]⟩
              omega
      exact step pl.length m1 (Nat.le_refl _)
    have hh : h = H pl.length := by
      refine look_ext fun id j => ?_
      obtain ⟨m, m1, m2, m3⟩ := last_of (fun k => k < pl.length ∧ cov (Ww k) id j) pl.length
      have h1 := inv.heap id j m m1 (m2.imp (fun x => x) fun h => ⟨hall _ h.1, h.2⟩) (fun k hk _ h => m3 k hk ⟨hk, h⟩)
      rw [h1]
      have step : ∀ k, m ≤ k → k ≤ pl.length → look (H m) id j = look (H k) id j := by
        intro k hmk
        induction k with
        | zero => intro _; obtain rfl : m = 0 := (by omega); rfl
        | succ k ih =>
          intro hk
          by_cases hmk' : m = k + 1
          · rw [hmk']
          · rw [ih (by omega) (by omega)]
            have hkl : k < pl.length := by omega
            obtain ⟨hrun, _⟩ := st.run k pl[k] (by simp [hkl])
            obtain ⟨R', W', r⟩ := (Loc.psV hL _ _ _ _ _ hrun).2.2.2 (hfree k (by omega))
            obtain ⟨_, l2⟩ := r.log rfl
            simp only [List.append_nil] at l2
            refine (r.off id j (fun hc => ?_)).symm
            rw [← l2] at hc
            have := m3 k hkl ⟨hkl, hc⟩
            omega
      exact step pl.length m1 (Nat.le_refl _)
    subst he hh
    refine hQ β D a w ⟨mono2 0 pl.length (by omega) (Nat.le_refl _), inv.keep, fun id hd => ?_⟩ inv.rel inv.er
    rcases inv.ids id hd with h1 | ⟨k, k1, _, k2, k3⟩
    · exact .inl h1
    · have a1 := mono2 0 k (by omega) (by omega)
      have a2 := mono2 (k + 1) pl.length (by omega) (Nat.le_refl _)
      exact .inr ⟨by omega, by omega⟩
  -- who is not up yet and waits for none
  have least : ∀ {l : Array Bool}, l.size = pl.length → (∀ i, i < pl.length → up l i) ∨ Region.ready .any ops l ≠ [] := by
    intro l hsz
    by_cases hall : ∀ i, i < pl.length → up l i
    · exact .inl hall
    · right
      have hex : ∃ i, i < pl.length ∧ ¬ up l i := by
        refine Classical.byContradiction fun hn => hall fun i hi => Classical.byContradiction fun hu => hn ⟨i, hi, hu⟩
      -- the first such
      have first : ∃ i, (i < pl.length ∧ ¬ up l i) ∧ ∀ k, k < i → up l k := by
        obtain ⟨i, hi⟩ := hex
        induction i using Nat.strongRecOn with
        | _ i ih =>
          by_cases hk : ∃ k, k < i ∧ ¬ up l k
          · obtain ⟨k, k1, k2⟩ := hk
            exact ih k k1 ⟨by omega, k2⟩
          · exact ⟨i, hi, fun k hk' => Classical.byContradiction fun hu => hk ⟨k, hk', hu⟩⟩
      obtain ⟨i, ⟨i1, i2⟩, i3⟩ := first
      have hil : i < l.size := by omega
      have hf : l.getD i true = false := by
        unfold up at i2
        simp [hil] at i2 ⊢
        exact i2
      have him : i ∈ Region.ready .any ops l := by
        rw [mem_ready]
        have hio : i < ops.size := by omega
        refine ⟨hf, ops[i], by simp [hio], fun ed hed hb => ?_⟩
        have := back_spec ops.toList 0 i ops[i] hbk (by simp [hio]) ed hed hb
        exact i3 ed.on (by omega)
      intro hnil
      rw [hnil] at him
      cases him
  intro fuel
  induction fuel with
  | zero =>
    intro l L β D env h a w hL0 hLm inv
    have hall : ∀ i, i < pl.length → up l i := fun i hi => Classical.byContradiction fun hu => by
      have := hLm i hi hu
      rw [List.eq_nil_of_length_eq_zero hL0] at this
      cases this
    refine ⟨?_, full inv hall⟩
    refine List.eq_nil_iff_forall_not_mem.2 fun i hi => ?_
    rw [mem_ready] at hi
    obtain ⟨hi, o, ho, _⟩ := hi
    have hio : i < ops.size := (Array.getElem?_eq_some_iff.1 ho).1
    have := hall i (by omega)
    unfold up at this
    have hil : i < l.size := by rw [inv.size]; omega
    simp [hil] at hi this
    rw [hi] at this
    cases this
  | succ fuel ih =>
    intro l L β D env h a w hL0 hLm inv
    refine ⟨fun hnil => full inv ((least inv.size).resolve_right (fun h => h hnil)), fun i hi => ?_⟩
    rw [mem_ready] at hi
    obtain ⟨hi, o, ho, hwait⟩ := hi
    have hio : i < ops.size := (Array.getElem?_eq_some_iff.1 ho).1
    have hip : i < pl.length := by omega
    have hil : i < l.size := by rw [inv.size]; exact hip
    have hnu : ¬ up l i := by
      unfold up
      simp [hil] at hi ⊢
      exact hi
    obtain ⟨ps, hps, hcs⟩ := hget i o (by simpa using ho)
    obtain ⟨hdst, hpd⟩ := cS_dst hcs
    obtain ⟨hrun, hEi⟩ := st.run i ps hps
    obtain ⟨R', W', r⟩ := (Loc.psV hL _ _ _ _ _ hrun).2.2.2 (hfree i (by omega))
    obtain ⟨g1, g2⟩ := r.log rfl
    simp only [List.append_nil] at g1 g2
    rw [← g1, ← g2] at r
    -- all that it waits for has come up
    have hmi : ∃ m, ms[i]? = some m := by
      have hl : ms.length = ops.toList.length := by rw [hms, anc_length]; simp
      exact ⟨ms[i]'(by rw [hl]; simpa using hio), by simp [hl, hio]⟩
    obtain ⟨mi, hmi⟩ := hmi
    have wait : ∀ p, Nat.testBit (ms[i]?.getD 0) p = true → up l p := by
      intro p hp
      rw [hms] at hp
      have := anc_spec ops.toList [] i o (by simpa using ho) p (by simpa using hp)
      obtain ⟨ed, e1, e2, e3, e4⟩ := this
      simp only [List.length_nil, Nat.zero_add] at e3
      have hup : up l ed.on := hwait ed (by simpa using e1) e2
      rcases e4 with rfl | e4
      · exact hup
      · exact inv.closed ed.on (by omega) hup p (by rw [hms]; exact e4)
    have hl : ms.length = ops.toList.length := by rw [hms, anc_length]; simp
    have hmk : ∀ k, k < pl.length → ms[k]? = some (ms[k]?.getD 0) := fun k hk => by
      have : k < ms.length := by rw [hl]; simp; omega
      simp [this]
    -- one that is up and not in its own order's past is none that it meets
    have meetW : ∀ k, k < pl.length → up l k → ∀ id j, cov (Ww k) id j → cov (R i) id j ∨ cov (Ww i) id j → k < i := by
      intro k hk huk id j hc hc'
      have hki : k ≠ i := fun e => hnu (by rw [← e]; exact huk)
      rcases Nat.lt_or_ge k i with h' | h'
      · exact h'
      · exfalso
        have hcl := st.calm k _ hk (hmk k hk) i (by omega)
        simp only [Nat.zero_add] at hcl
        rcases clash_no hcl with h1 | ⟨c1, c2, c3⟩
        · exact hnu (inv.closed k hk huk i h1)
        · rcases hc' with hc' | hc'
          · exact c3 id j hc' hc
          · exact c1 id j hc' hc
    -- those in its past that it meets are up
    have pastW : ∀ k, k < i → ∀ id j, cov (Ww k) id j → cov (R i) id j ∨ cov (Ww i) id j → up l k := by
      intro k hk id j hc hc'
      have hcl := st.calm i _ hip (hmk i hip) k hk
      simp only [Nat.zero_add] at hcl
      rcases clash_no hcl with h1 | ⟨c1, c2, c3⟩
      · exact wait k h1
      · exfalso
        rcases hc' with hc' | hc'
        · exact c2 id j hc hc'
        · exact c1 id j hc hc'
    have meetT : ∀ k, k < pl.length → up l k → ∀ t, (∃ o, pl[k]? = some o ∧ o.d = some t) → t ∈ readsS ps ∨ ps.d = some t → k < i := by
      intro k hk huk t ⟨o', ho', hd'⟩ hc'
      have hki : k ≠ i := fun e => hnu (by rw [← e]; exact huk)
      rcases Nat.lt_or_ge k i with h' | h'
      · exact h'
      · exfalso
        cases hb : Nat.testBit (ms[k]?.getD 0) i with
        | true => exact hnu (inv.closed k hk huk i hb)
        | false =>
          obtain ⟨c1, c2⟩ := slots_spec hsl (show i < k by omega) hps ho' hb
          obtain ⟨d1, d2⟩ := apartS_spec c2 hd'
          rcases hc' with hc' | hc'
          · exact d1 hc'
          · exact d2 hc'
    have pastT : ∀ k, k < i → ∀ t, (∃ o, pl[k]? = some o ∧ o.d = some t) → t ∈ readsS ps ∨ ps.d = some t → up l k := by
      intro k hk t ⟨o', ho', hd'⟩ hc'
      cases hb : Nat.testBit (ms[i]?.getD 0) k with
      | true => exact wait k hb
      | false =>
        exfalso
        obtain ⟨c1, c2⟩ := slots_spec hsl hk ho' hps hb
        obtain ⟨d1, d2⟩ := apartS_spec c1 hd'
        rcases hc' with hc' | hc'
        · exact d1 hc'
        · exact d2 hc'
    -- what it reads is what it read in its own order
    have agreeT : ∀ t, t ∈ readsS ps ∨ ps.d = some t → env t = E i t := by
      intro t ht
      obtain ⟨m, m1, m2, m3⟩ := last_of (fun k => up l k ∧ ∃ o, pl[k]? = some o ∧ o.d = some t) i
      have h1 := inv.env t m (by omega) m2 (fun k hk huk hw => m3 k (meetT k hk huk t hw ht) ⟨huk, hw⟩)
      rw [h1]
      have step : ∀ k, m ≤ k → k ≤ i → E m t = E k t := by
        intro k hmk'
        induction k with
        | zero => intro _; obtain rfl : m = 0 := (by omega); rfl
        | succ k ihk =>
          intro hk
          by_cases hmk2 : m = k + 1
          · rw [hmk2]
          · rw [ihk (by omega) (by omega)]
            have hkl : k < pl.length := by omega
            obtain ⟨_, hE⟩ := st.run k pl[k] (by simp [hkl])
            rw [hE]
            cases hd : pl[k].d with
            | none => rfl
            | some d =>
              simp only [putO]
              rw [if_neg]
              intro htd
              have hw : ∃ o, pl[k]? = some o ∧ o.d = some t := ⟨pl[k], by simp [hkl], by rw [hd, htd]⟩
              have := m3 k (by omega) ⟨pastT k (by omega) t hw ht, hw⟩
              omega
      exact step i m1 (Nat.le_refl _)
    have agreeW : ∀ id j, cov (R i) id j ∨ cov (Ww i) id j → look h id j = look (H i) id j := by
      intro id j hc
      obtain ⟨m, m1, m2, m3⟩ := last_of (fun k => up l k ∧ cov (Ww k) id j) i
      have h1 := inv.heap id j m (by omega) m2 (fun k hk huk hw => m3 k (meetW k hk huk id j hw hc) ⟨huk, hw⟩)
      rw [h1]
      have step : ∀ k, m ≤ k → k ≤ i → look (H m) id j = look (H k) id j := by
        intro k hmk'
        induction k with
        | zero => intro _; obtain rfl : m = 0 := (by omega); rfl
        | succ k ihk =>
          intro hk
          by_cases hmk2 : m = k + 1
          · rw [hmk2]
          · rw [ihk (by omega) (by omega)]
            have hkl : k < pl.length := by omega
            obtain ⟨hrun', _⟩ := st.run k pl[k] (by simp [hkl])
            obtain ⟨R2, W2, r2⟩ := (Loc.psV hL _ _ _ _ _ hrun').2.2.2 (hfree k (by omega))
            obtain ⟨_, l2'⟩ := r2.log rfl
            simp only [List.append_nil] at l2'
            refine (r2.off id j (fun hc2 => ?_)).symm
            rw [← l2'] at hc2
            have := m3 k (by omega) ⟨pastW k (by omega) id j hc2 hc, hc2⟩
            omega
      exact step i m1 (Nat.le_refl _)
    -- its run here
    have hcong : psV ps F env = psV ps F (E i) := psV_congr fun t ht => agreeT t (.inl ht)
    obtain ⟨t', t1, t2, t3, t4, t5, t6⟩ := r.also ⟨true, h, n i, [], []⟩ rfl rfl agreeW
    have hfri : Fresh D (n i).num (n (i + 1)).num := by
      intro id d1 d2 hd
      rcases inv.ids id hd with hd0 | ⟨k, k1, k2, k3, k4⟩
      · exact hfr id (Nat.le_trans (mono2 0 i (by omega) (by omega)) d1) (Nat.lt_of_lt_of_le d2 (mono2 (i + 1) pl.length (by omega) (Nat.le_refl _))) hd0
      · have hki : k ≠ i := fun e => hnu (by rw [← e]; exact k2)
        rcases Nat.lt_or_ge k i with h' | h'
        · have := mono2 (k + 1) i (by omega) (by omega); omega
        · have := mono2 (i + 1) k (by omega) (by omega); omega
    refine ps_ok (s := ⟨true, h, n i, [], []⟩) (s' := t') hY hF inv.rel inv.er ho hcs (by rw [hcong]; exact t1) (by rw [t2]; exact hfri) ?_
    intro β' D' w' V hx hrel hv
    rw [t2] at hx
    refine ih (l.setIfInBounds i true) (L.erase i) β' D' (putO ps.d (v i) env) t'.h _ w' ?_ ?_ ?_
    · have := hLm i hip hnu
      rw [List.length_erase_of_mem this]; omega
    · intro k hk hu
      rw [up_set hil] at hu
      have hki : k ≠ i := fun e => hu (.inl e)
      exact (List.mem_erase_of_ne hki).2 (hLm k hk (fun h' => hu (.inr h')))
    · have upS : ∀ k, up (l.setIfInBounds i true) k ↔ k = i ∨ up l k := fun k => up_set hil
      refine ⟨by simpa using inv.size, fun id hd => ?_, fun id hd => ?_, hrel, ?_, fun t m m1 m2 m3 => ?_, fun id j m m1 m2 m3 => ?_, fun k hk huk p hp => ?_⟩
      · obtain ⟨k1, k2⟩ := inv.keep id hd
        obtain ⟨q1, q2⟩ := hx.keep id k1
        exact ⟨q1, q2.trans k2⟩
      · rcases hx.new id hd with h1 | ⟨h1, h2⟩
        · rcases inv.ids id h1 with h2 | ⟨k, k1, k2, k3⟩
          · exact .inl h2
          · exact .inr ⟨k, k1, (upS k).2 (.inr k2), k3⟩
        · exact .inr ⟨i, hip, (upS i).2 (.inl rfl), h1, h2⟩
      · rw [hpd]
        exact (inv.er.mono hx).put hdst hv
      · -- slots
        by_cases hti : ps.d = some t
        · have him : i < m := m3 i hip ((upS i).2 (.inl rfl)) ⟨ps, hps, hti⟩
          have hmi : m = i + 1 := by
            rcases m2 with h0 | ⟨hu, hw⟩
            · omega
            · rcases (upS (m - 1)).1 hu with h1 | h1
              · omega
              · have := meetT (m - 1) (by omega) h1 t hw (.inr hti); omega
          rw [hmi, hEi]
          simp only [hti, putO, if_true]
        · have e1 : putO ps.d (v i) env t = env t := by
            cases hd : ps.d with
            | none => rfl
            | some d =>
              simp only [putO]
              rw [if_neg (fun e => hti (by rw [hd, e]))]
          rw [e1]
          refine inv.env t m m1 (m2.imp (fun x => x) fun ⟨hu, hw⟩ => ?_) (fun k hk huk hw => m3 k hk ((upS k).2 (.inr huk)) hw)
          rcases (upS (m - 1)).1 hu with h1 | h1
          · exfalso
            obtain ⟨o', ho', hd'⟩ := hw
            rw [h1, hps] at ho'
            cases ho'
            exact hti hd'
          · exact ⟨h1, hw⟩
      · -- memory
        by_cases hci : cov (Ww i) id j
        · have him : i < m := m3 i hip ((upS i).2 (.inl rfl)) hci
          have hmi : m = i + 1 := by
            rcases m2 with h0 | ⟨hu, hw⟩
            · omega
            · rcases (upS (m - 1)).1 hu with h1 | h1
              · omega
              · have := meetW (m - 1) (by omega) h1 id j hw (.inr hci); omega
          rw [hmi]
          exact t5 id j hci
        · rw [t6 id j hci]
          refine inv.heap id j m m1 (m2.imp (fun x => x) fun ⟨hu, hw⟩ => ?_) (fun k hk huk hw => m3 k hk ((upS k).2 (.inr huk)) hw)
          rcases (upS (m - 1)).1 hu with h1 | h1
          · exfalso
            rw [h1] at hw
            exact hci hw
          · exact ⟨h1, hw⟩
      · rcases (upS k).1 huk with rfl | h1
        · exact (upS p).2 (.inr (wait p hp))
        · exact (upS p).2 (.inr (inv.closed k hk h1 p hp))
end
end Ev
end Go.Proofs.YthknbcbkibbncaaGreat

/- DERIVED. Code and functions: what the evaluator gives is what the model does. -/
namespace Go.Proofs.YthknbcbkibbncaaGreat
namespace Ev
open Go.RowKit

section
variable {P : Program} {Y : Ty} {β : Id → CA} {D : Id → Prop} {B N : Nat} {W w : World} {s s' u : S} {e e' : Env} {a : Act} {F : Fns}

theorem ops_ok (hY : TyOk P Y) (hF : FnOk P F) (hL : LocF F) {ops : Array Oper} {Q : Exit → Act → World → Prop} : ∀ (l : List Oper) (k : Nat) (pl : List PS) (β : Id → CA) (D : Id → Prop) (s s' : S) (e e' : Env) (a : Act) (w : World), l = ops.toList.drop k → cSs Y N ops.toList l = some pl →
    opsR F pl e s = some (e', s') → Rel β D B W s.h w → ER β D N e a → Fresh D s.n.num s'.n.num → GoesC β D B N W s s' e' (Q .normal) → wpOps P ops Q (List.range' k l.length) a w
  | [], k, pl, β, D, s, s', e, e', a, w, hl, hc, h, hr, he, hfr, hQ => by
    simp only [cSs] at hc
    cases hc
    obtain ⟨rfl, rfl⟩ := pure_some h
    exact hQ β D a w (Ext.refl _ _ _) hr he
  | o :: l, k, pl, β, D, s, s', e, e', a, w, hl, hc, h, hr, he, hfr, hQ => by
    simp only [cSs] at hc
    obtain ⟨ps, hps, hc⟩ := bi_some hc
    obtain ⟨pl', hpl', hc⟩ := bi_some hc
    cases hc
    simp only [opsR] at h
    obtain ⟨e1, s1, h1, h2⟩ := bind_some h
    obtain ⟨v, s2, h3, h4⟩ := bind_some h1
    obtain ⟨rfl, rfl⟩ := pure_some h4
    have ho : ops[k]? = some o := by
      have := congrArg (fun l => l[0]?) hl
      simp only [List.getElem?_cons_zero, List.getElem?_drop, Nat.add_zero] at this
      simpa using this.symm
    have hl' : l = ops.toList.drop (k + 1) := by
      rw [← List.tail_drop, ← hl]; rfl
    obtain ⟨c1, c2, c3, _⟩ := Loc.opsR hL _ _ _ _ _ h2
    obtain ⟨hd, hpd⟩ := cS_dst hps
    rw [List.length_cons, List.range'_succ, wpOps_cons]
    refine ps_ok hY hF hr he ho hps h3 (hfr.left c2) ?_
    intro β' D' w' V hx hrel hv
    refine ops_ok hY hF hL l (k + 1) pl' β' D' _ s' _ e' _ w' hl' hpl' h2 hrel ?_ (hfr.right hx) (hQ.from hx)
    rw [hpd]
    exact (he.mono hx).put hd hv

def exitOf (x : Option Ex) : Exit := match x with
  | none => .normal
  | some .ret => .ret
  | some (.exit id) => .exit id


theorem least_ex (p : Nat → Prop) (h : ∃ m, p m) : ∃ m, p m ∧ ∀ k, p k → m ≤ k := by
  obtain ⟨m, hm⟩ := h
  induction m using Nat.strongRecOn with
  | _ m ih =>
    by_cases hk : ∃ k, k < m ∧ p k
    · obtain ⟨k, k1, k2⟩ := hk
      exact ih k k1 k2
    · exact ⟨m, hm, fun k hp => by
        rcases Nat.lt_or_ge k m with h' | h'
        · exact absurd ⟨k, h', hp⟩ hk
        · exact h'⟩
open Classical in
noncomputable def least (p : Nat → Prop) : Nat := if h : ∃ m, p m then Classical.choose (least_ex p h) else 0
theorem least_spec {p : Nat → Prop} (h : ∃ m, p m) : p (least p) ∧ ∀ k, p k → least p ≤ k := by
  unfold least
  rw [dif_pos h]
  exact Classical.choose_spec (least_ex p h)
theorem co_ok (hY : TyOk P Y) (hmix : P.follows .mixedOrders = true) (hF : FnOk P F) (hL : LocF F) : ∀ (c : Code) (pc : PC) (β : Id → CA) (D : Id → Prop) (s s' : S) (e e' : Env) (x : Option Ex) (a : Act) (w : World) (Q : Exit → Act → World → Prop), cC Y N c = some pc →
    coR F pc e s = some ((x, e'), s') → Rel β D B W s.h w → ER β D N e a → Fresh D s.n.num s'.n.num → GoesC β D B N W s s' e' (Q (exitOf x)) → c.wp P Q a w := by
  intro c
  induction c with
  | skip =>
    intro pc β D s s' e e' x a w Q hc h hr he hfr hQ
    simp only [cC] at hc
    cases hc
    obtain ⟨hx, rfl⟩ := pure_some h
    cases hx
    exact wp_skip (hQ β D a w (Ext.refl _ _ _) hr he)
  | region id ops d =>
    intro pc β D s s' e e' x a w Q hc h hr he hfr hQ
    simp only [cC] at hc
    obtain ⟨pl, hpl, hc⟩ := bi_some hc
    cases d with
    | false =>
      simp only at hc
      cases hc
      obtain ⟨e1, s1, h1, h2⟩ := bind_some h
      obtain ⟨hx, rfl⟩ := pure_some h2
      cases hx
      refine wp_region ?_
      have := ops_ok (Q := Q) hY hF hL ops.toList 0 pl β D s s' e e' a w (by simp) hpl h1 hr he hfr hQ
      rw [List.range_eq_range']
      simpa using this
    | true =>
      simp only at hc
      obtain ⟨_, hg, hc⟩ := bi_some hc
      cases hc
      have hg' := guardB_some hg
      simp only [Bool.and_eq_true] at hg'
      obtain ⟨e1, s1, h1, h2⟩ := bind_some h
      obtain ⟨hx, rfl⟩ := pure_some h2
      cases hx
      refine wp_region_any hmix ?_
      obtain ⟨E, H, nn, v, R, Ww, st, c1, c2, c3, c4, c5, c6, _⟩ := drw_steps hL pl _ [] 0 e s e' s' h1
      obtain ⟨hlen, hget⟩ := cSs_get hpl
      have hlen' : pl.length = ops.size := by simpa using hlen
      have hmk : ∀ k, k < pl.length → (nn k).num ≤ (nn (k + 1)).num := by
        intro k hk
        obtain ⟨hrun, _⟩ := st.run k pl[k] (by simp [hk])
        exact (Loc.psV hL _ _ _ _ _ hrun).2.1
      have up0 : ∀ k, k ≤ pl.length → (nn 0).num ≤ (nn k).num ∧ ∀ id, s.h id = none → H k id = none ∨ ((nn 0).num ≤ id.num ∧ id.num < (nn k).num) := by
        intro k
        induction k with
        | zero => intro _; exact ⟨Nat.le_refl _, fun id h => .inl (by rw [c2]; exact h)⟩
        | succ k ih =>
          intro hk
          have hkl : k < pl.length := by omega
          obtain ⟨i1, i2⟩ := ih (by omega)
          obtain ⟨hrun, _⟩ := st.run k pl[k] (by simp [hkl])
          have hb := (Loc.psV hL _ _ _ _ _ hrun).2.2.1
          simp only at hb
          have := hmk k hkl
          refine ⟨by omega, fun id hid => ?_⟩
          rcases i2 id hid with h3 | h3
          · rcases hb id h3 with h4 | h4
            · exact .inl h4
            · exact .inr ⟨by omega, h4.2⟩
          · exact .inr ⟨h3.1, by omega⟩
      have last : ∀ k, k ≤ pl.length → (nn k).num ≤ (nn pl.length).num := by
        intro k hk
        have key : ∀ d, k + d ≤ pl.length → (nn k).num ≤ (nn (k + d)).num := by
          intro d
          induction d with
          | zero => intro _; exact Nat.le_refl _
          | succ d ih => intro hd; exact Nat.le_trans (ih (by omega)) (hmk (k + d) (by omega))
        have := key (pl.length - k) (by omega)
        rwa [show k + (pl.length - k) = pl.length by omega] at this
      have hfk : ∀ k, k < pl.length → FreeTo ⟨true, H k, nn k, [], []⟩ ⟨true, H (k + 1), nn (k + 1), [], []⟩ := by
        intro k hk id d1 d2
        simp only at d1 d2 ⊢
        have u1 := up0 k (by omega)
        have u2 := last (k + 1) (by omega)
        have hn : s.h id = none := by
          cases hs : s.h id with
          | none => rfl
          | some b => exact absurd (hr.hr.live id b hs).1 (hfr id (by rw [← c3]; omega) (by rw [← c6]; omega))
        exact (u1.2 id hn).resolve_right (by omega)
      have hrd : Rel β D B W s.h { w with drawn := w.drawn + 1 } := ⟨Ext.drew_heap hr.hr rfl, hr.bel.drew⟩
      refine draw_any (W := W) (B := B) (N := N) hY hF hL rfl hpl hg'.1 hg'.2 st hfk hmk (β₀ := β) (D₀ := D) (by rw [c3, c6]; exact hfr) (Q := Q) ?_ ops.size (Array.replicate ops.size false) (List.range ops.size) β D e s.h a _ (by simp) (fun i hi _ => by simp; omega) ?_
      · intro β' D' a' w' hx hrel her
        rw [c3, c6] at hx
        rw [c5] at hrel
        rw [c4] at her
        exact hQ β' D' a' w' hx hrel her
      · have nup : ∀ k, ¬ up (Array.replicate ops.size false) k := fun k hk => by
          unfold up at hk
          by_cases hks : k < ops.size
          · simp [hks] at hk
          · simp [hks] at hk
        refine ⟨by simp [hlen'], fun id hd => ⟨hd, rfl⟩, fun id hd => .inl hd, hrd, he, fun t m m1 m2 m3 => ?_, fun id j m m1 m2 m3 => ?_, fun k _ hk => absurd hk (nup k)⟩
        · rcases m2 with rfl | ⟨hu, _⟩
          · rw [c1]
          · exact absurd hu (nup _)
        · rcases m2 with rfl | ⟨hu, _⟩
          · rw [c2]
          · exact absurd hu (nup _)
  | seq c1 c2 ih1 ih2 =>
    intro pc β D s s' e e' x a w Q hc h hr he hfr hQ
    simp only [cC] at hc
    obtain ⟨p1, hp1, hc⟩ := bi_some hc
    obtain ⟨p2, hp2, hc⟩ := bi_some hc
    cases hc
    obtain ⟨xe, s1, h1, h2⟩ := bind_some h
    obtain ⟨x1, e1⟩ := xe
    obtain ⟨b1, b2, b3, _⟩ := Loc.coR hL _ _ _ _ _ h1
    refine wp_seq ?_
    cases x1 with
    | none =>
      simp only at h2
      obtain ⟨d1, d2, d3, _⟩ := Loc.coR hL _ _ _ _ _ h2
      refine ih1 p1 β D s s1 e e1 none a w _ hp1 h1 hr he (hfr.left d2) ?_
      intro β' D' a' w' hx hrel her
      exact ih2 p2 β' D' s1 s' e1 e' x a' w' Q hp2 h2 hrel her (hfr.right hx) (hQ.from hx)
    | some ex =>
      obtain ⟨hx', rfl⟩ := pure_some h2
      cases hx'
      refine ih1 p1 β D s _ e _ (some ex) a w _ hp1 h1 hr he hfr ?_
      intro β' D' a' w' hx hrel her
      have := hQ β' D' a' w' hx hrel her
      cases ex <;> exact this
  | cond t c1 c2 ih1 ih2 =>
    intro pc β D s s' e e' x a w Q hc h hr he hfr hQ
    simp only [cC] at hc
    obtain ⟨t1, ht1, hc⟩ := bi_some hc
    obtain ⟨p1, hp1, hc⟩ := bi_some hc
    obtain ⟨p2, hp2, hc⟩ := bi_some hc
    cases hc
    have hv := arg_ok he ht1
    simp only [coR] at h
    cases hq : arg t1 e <;> rw [hq] at h hv <;> first | (simp only [M.no] at h; cases h; done) | skip
    rename_i b
    simp only [VR] at hv
    cases b
    · exact wp_cond_false hv (ih2 p2 β D s s' e e' x a w Q hp2 h hr he hfr hQ)
    · exact wp_cond_true hv (ih1 p1 β D s s' e e' x a w Q hp1 h hr he hfr hQ)
  | block id b ih =>
    intro pc β D s s' e e' x a w Q hc h hr he hfr hQ
    simp only [cC] at hc
    obtain ⟨p1, hp1, hc⟩ := bi_some hc
    cases hc
    obtain ⟨xe, s1, h1, h2⟩ := bind_some h
    obtain ⟨x1, e1⟩ := xe
    refine wp_block ?_
    have fin : ∀ {y : Option Ex}, s1 = s' → e1 = e' → (∀ a w, Q (exitOf x) a w → Exit.inBlock id Q (exitOf y) a w) → x1 = y → b.wp P (Exit.inBlock id Q) a w := by
      intro y hs hee himp hy
      subst hs hee hy
      exact ih p1 β D s s1 e e1 x1 a w _ hp1 h1 hr he hfr (fun β' D' a' w' hx hrel her => himp _ _ (hQ β' D' a' w' hx hrel her))
    cases x1 with
    | none =>
      obtain ⟨hx', hs⟩ := pure_some h2
      cases hx'
      exact fin (y := none) hs.symm rfl (fun a w h => h) rfl
    | some ex =>
      cases ex with
      | ret =>
        obtain ⟨hx', hs⟩ := pure_some h2
        cases hx'
        exact fin (y := some .ret) hs.symm rfl (fun a w h => h) rfl
      | exit j =>
        simp only at h2
        cases hj : Nat.beq j id <;> rw [hj] at h2 <;> simp only at h2
        · obtain ⟨hx', hs⟩ := pure_some h2
          cases hx'
          have hne : j ≠ id := fun e => by subst e; simp at hj
          refine fin (y := some (.exit j)) hs.symm rfl (fun a w h => ?_) rfl
          simp only [exitOf, Exit.inBlock, if_neg hne]
          exact h
        · obtain ⟨hx', hs⟩ := pure_some h2
          cases hx'
          have he' : j = id := Nat.eq_of_beq_eq_true hj
          refine fin (y := some (.exit j)) hs.symm rfl (fun a w h => ?_) rfl
          simp only [exitOf, Exit.inBlock, if_pos he']
          exact h
  | loop b ih =>
    intro pc β D s s' e e' x a w Q hc h hr he hfr hQ
    simp only [cC] at hc
    obtain ⟨pb, hpb, hc⟩ := bi_some hc
    cases hc
    -- the rounds that are left
    let J : Nat → Act → World → Prop := fun m a w => ∃ β1 D1 s1 e1, Ext β D β1 D1 s.n.num s1.n.num ∧ Rel β1 D1 B W s1.h w ∧ ER β1 D1 N e1 a ∧ iter m (fun e => coR F pb e) e1 s1 = some ((x, e'), s')
    have hJ : ∃ m, J m a w := ⟨rounds, β, D, s, e, Ext.refl _ _ _, hr, he, h⟩
    refine wp_loop (fun a w => ∃ m, J m a w) (fun a w => least fun m => J m a w) hJ ?_
    intro a1 w1 h1
    obtain ⟨hm, hleast⟩ := least_spec h1
    generalize hmin : least (fun m => J m a1 w1) = m at hm hleast
    obtain ⟨β1, D1, s1, e1, hx1, hr1, he1, hrun⟩ := hm
    cases m with
    | zero => simp [iter, M.no] at hrun
    | succ m =>
    simp only [iter] at hrun
    obtain ⟨xe, s2, k1, k2⟩ := bind_some hrun
    obtain ⟨x2, e2⟩ := xe
    have hfr1 : Fresh D1 s1.n.num s'.n.num := hfr.right hx1
    cases x2 with
    | none =>
      simp only at k2
      have hle2 := (Loc.iter (fun e => Loc.coR hL pb e) m e2 _ _ _ k2).2.1
      refine ih pb β1 D1 s1 s2 e1 e2 none a1 w1 _ hpb k1 hr1 he1 (hfr1.left hle2) ?_
      intro β' D' a' w' hx hrel her
      have hJ' : J m a' w' := ⟨β', D', s2, e2, hx1.trans hx, hrel, her, k2⟩
      refine ⟨⟨m, hJ'⟩, ?_⟩
      have := (least_spec (p := fun m => J m a' w') ⟨m, hJ'⟩).2 m hJ'
      omega
    | some ex =>
      obtain ⟨hx', rfl⟩ := pure_some k2
      cases hx'
      refine ih pb β1 D1 s1 _ e1 _ (some ex) a1 w1 _ hpb k1 hr1 he1 hfr1 ?_
      intro β' D' a' w' hx hrel her
      have := hQ β' D' a' w' (hx1.trans hx) hrel her
      cases ex <;> exact this
  | exit id =>
    intro pc β D s s' e e' x a w Q hc h hr he hfr hQ
    simp only [cC] at hc
    cases hc
    obtain ⟨hx, rfl⟩ := pure_some h
    cases hx
    exact wp_exit (hQ β D a w (Ext.refl _ _ _) hr he)
  | ret =>
    intro pc β D s s' e e' x a w Q hc h hr he hfr hQ
    simp only [cC] at hc
    cases hc
    obtain ⟨hx, rfl⟩ := pure_some h
    cases hx
    exact wp_ret (hQ β D a w (Ext.refl _ _ _) hr he)
  | _ =>
    all_goals
      intro pc β D s s' e e' x a w Q hc
      simp [cC] at hc
end
end Ev
end Go.Proofs.YthknbcbkibbncaaGreat

/- DERIVED. Functions: what the evaluator gives is what the model's call gives. -/
namespace Go.Proofs.YthknbcbkibbncaaGreat
namespace Ev
open Go.RowKit

section
variable {P : Program} {Y : Ty} {β : Id → CA} {D : Id → Prop} {B N : Nat} {W w : World} {s s' u : S} {e e' : Env} {a : Act} {F : Fns} {own : Nat → List AV → M AV} {X : Nat → Option PF}

def OwnOk (P : Program) (own : Nat → List AV → M AV) (k f : Nat) : Prop := ∀ l s v s', own k l s = some (v, s') → ∀ β D B W w L, VRs β D l L → Rel β D B W s.h w → Fresh D s.n.num s'.n.num →
  Calls P f L.toArray w fun e w' => ∃ β' D' V, e = .returned V ∧ Ext β D β' D' s.n.num s'.n.num ∧ Rel β' D' B W s'.h w' ∧ VR β' D' v V
structure TabOk (P : Program) (Y : Ty) (own : Nat → List AV → M AV) (X : Nat → Option PF) : Prop where
  call : ∀ f pf, X f = some pf → ∀ args w, (callFunc f args).run P w = .ok (.enter f args) w
  own : ∀ f k, X f = some (.own k) → OwnOk P own k f
  walk : ∀ f b r, X f = some (.f b r) → ∃ fn, P.funcs[f]? = some fn ∧ cF Y fn = some (.f b r)

theorem argE_ok {l : List AV} {L : List Value} (h : VRs β D l L) (n : Nat) : ER β D n (argE l) { tmps := L.toArray ++ Array.replicate (n - L.toArray.size) undef, defers := [] } := by
  refine ⟨by simp; omega, fun t => ?_, rfl⟩
  unfold argE
  simp only [Array.getD_eq_getD_getElem?]
  cases hl : l[t]? with
  | some v =>
    obtain ⟨V, hV, hv⟩ := h.get t v hl
    have ht : t < L.length := (List.getElem?_eq_some_iff.1 hV).1
    rw [Array.getElem?_append_left (by simpa using ht)]
    simp [hV]
    exact hv
  | none =>
    have ht : L.length ≤ t := by rw [h.length]; exact List.getElem?_eq_none_iff.1 hl
    rw [Array.getElem?_append_right (by simpa using ht), Array.getElem?_replicate]
    by_cases hq : t - L.toArray.size < n - L.toArray.size
    · rw [if_pos hq]; exact VR.und
    · rw [if_neg hq]; exact VR.und

theorem ld_at (hY : TyOk P Y) (hr : Rel β D B W s.h w) {t : TypeId} {d : TypeDesc} (ht : under Y t = some d) (hd : isAggD d = false) {x v : AV} {X : Value} (h : ldF x s = some (v, s')) (hx : VR β D x X) :
    Same s s' ∧ ∃ ad V, X = .pointer (some ad) ∧ VR β D v V ∧ (loadVar t ad).run P w = .ok V w := by
  cases x <;> first | (simp only [ldF, M.no] at h; cases h; done) | skip
  rename_i id off
  simp only [VR] at hx
  obtain ⟨did, rfl⟩ := hx
  obtain ⟨l, u, h1, h2⟩ := bind_some h
  obtain ⟨g1, g2, g3, Vs, g4, g5, g6, g7, g8⟩ := rd_ok hr.hr h1
  match l, h2, g3, g4 with
  | [y], h2, g3, g4 =>
    obtain ⟨rfl, rfl⟩ := pure_some h2
    obtain ⟨V, hV, hv⟩ := g4.get 0 v (by simp)
    have hagg : (isAgg t).run P w = .ok false w := by
      unfold isAgg
      rw [Sem.run_bind, run_underlying (under_ok hY ht)]
      cases d <;> simp_all [isAggD]
    have hc := g6 0 V hV
    simp only [Nat.add_zero] at hc
    exact ⟨⟨g1, g2⟩, _, V, rfl, hv, by simp [loadVar, hagg, run_load, hc]⟩
theorem ldn_at (hY : TyOk P Y) (hr : Rel β D B W s.h w) {t : TypeId} {d : TypeDesc} {m : Nat} (ht : under Y t = some d) (hd : isAggD d = true) (hm : sizeT Y t = some m) {x v : AV} {X : Value} (h : ldnF m x s = some (v, s')) (hx : VR β D x X) :
    Same s s' ∧ ∃ ad V, X = .pointer (some ad) ∧ VR β D v V ∧ (loadVar t ad).run P w = .ok V w := by
  cases x <;> first | (simp only [ldnF, M.no] at h; cases h; done) | skip
  rename_i id off
  simp only [VR] at hx
  obtain ⟨did, rfl⟩ := hx
  obtain ⟨l, u, h1, h2⟩ := bind_some h
  obtain ⟨g1, g2, g3, Vs, g4, g5, g6, g7, g8⟩ := rd_ok hr.hr h1
  obtain ⟨rfl, rfl⟩ := pure_some h2
  have hagg : (isAgg t).run P w = .ok true w := by
    unfold isAgg
    rw [Sem.run_bind, run_underlying (under_ok hY ht)]
    cases d <;> simp_all [isAggD]
  have hl := run_loadCells_list (P := P) w ⟨(β id).blk, (β id).base + off, none⟩ Vs (fun j V hV => by
    rw [add_at]
    exact g6 j V hV)
  rw [g5] at hl
  exact ⟨⟨g1, g2⟩, _, .agg Vs.toArray, rfl, by simp only [VR]; exact ⟨Vs, rfl, g4, g8⟩, by simp [loadVar, hagg, size_ok hY hm, hl]⟩
def resV (a : Act) (r : ResultVar) : Sem Value := match r with
  | .tmp t => pure (a.tmps.getD t undef)
  | .cell c t => do loadVar t (← asAddr (a.tmps.getD c undef))
theorem res_ok (hY : TyOk P Y) : ∀ (l : List ResultVar) (rs : List PR) (s s' : S) (vs : List AV), cRs Y l = some rs → resL e rs s = some (vs, s') → Rel β D B W s.h w → ER β D N e a →
    Same s s' ∧ ∃ Vs : List Value, VRs β D vs Vs ∧ (l.mapM (resV a)).run P w = .ok Vs w
  | [], rs, s, s', vs, hc, h, hr, he => by
    simp only [cRs] at hc
    cases hc
    obtain ⟨rfl, rfl⟩ := pure_some h
    exact ⟨⟨rfl, rfl⟩, [], VRs.nil, by simp [Sem.run_pure]⟩
  | r :: l, rs, s, s', vs, hc, h, hr, he => by
    simp only [cRs] at hc
    obtain ⟨pr, hpr, hc⟩ := bi_some hc
    obtain ⟨rs', hrs, hc⟩ := bi_some hc
    cases hc
    cases r with
    | tmp t =>
      simp only [cR] at hpr
      cases hpr
      obtain ⟨vs', s1, h1, h2⟩ := bind_some h
      obtain ⟨rfl, rfl⟩ := pure_some h2
      obtain ⟨g1, Vs, g2, g3⟩ := res_ok hY l rs' s _ vs' hrs h1 hr he
      refine ⟨g1, a.tmps.getD t undef :: Vs, VRs.cons (he.at_ t) g2, ?_⟩
      rw [List.mapM_cons, Sem.run_bind]
      simp only [resV, Sem.run_pure, Result.andThen_ok]
      rw [Sem.run_bind, g3]
      rfl
    | cell c t =>
      simp only [cR] at hpr
      obtain ⟨d, hd, hpr⟩ := bi_some hpr
      obtain ⟨m, hm, hpr⟩ := bi_some hpr
      have hv := he.at_ c
      have fin : ∀ {v : AV} {s1 : S} {vs' : List AV}, (Same s s1 ∧ ∃ ad V, a.tmps.getD c undef = .pointer (some ad) ∧ VR β D v V ∧ (loadVar t ad).run P w = .ok V w) → resL e rs' s1 = some (vs', s') → vs = v :: vs' →
          Same s s' ∧ ∃ Vs : List Value, VRs β D vs Vs ∧ ((ResultVar.cell c t :: l).mapM (resV a)).run P w = .ok Vs w := by
        rintro v s1 vs' ⟨hs1, ad, V, hX, hV, hld⟩ h2 rfl
        obtain ⟨g1, Vs, g2, g3⟩ := res_ok hY l rs' s1 s' vs' hrs h2 (hs1.rel hr) he
        refine ⟨⟨g1.1.trans hs1.1, g1.2.trans hs1.2⟩, V :: Vs, VRs.cons hV g2, ?_⟩
        rw [List.mapM_cons, Sem.run_bind]
        have : (resV a (.cell c t)).run P w = .ok V w := by
          simp only [resV, hX, asAddr, Sem.run_bind, Sem.run_pure, Result.andThen_ok, hld]
        rw [this]
        simp only [Result.andThen_ok]
        rw [Sem.run_bind, g3]
        rfl
      cases hagg : isAggD d <;> rw [hagg] at hpr <;> simp only at hpr <;> cases hpr
      · obtain ⟨v, s1, h1, h2⟩ := bind_some h
        obtain ⟨vs', s2, h3, h4⟩ := bind_some h2
        obtain ⟨rfl, rfl⟩ := pure_some h4
        exact fin (ld_at hY hr hd hagg h1 hv) h3 rfl
      · obtain ⟨v, s1, h1, h2⟩ := bind_some h
        obtain ⟨vs', s2, h3, h4⟩ := bind_some h2
        obtain ⟨rfl, rfl⟩ := pure_some h4
        exact fin (ldn_at hY hr hd hagg hm h1 hv) h3 rfl
theorem results_ok {fn : Func} {Vs : List Value} {vs : List AV} (h : (fn.results.toList.mapM (resV a)).run P w = .ok Vs w) (hv : VRs β D vs Vs) : ∃ V, (results fn a.tmps).run P w = .ok V w ∧ VR β D (oneR vs) V := by
  have hm : (fn.results.mapM (resV a)).run P w = .ok Vs.toArray w := by
    rw [Array.mapM_eq_mapM_toList, Sem.run_map, h]
    rfl
  have hres : (results fn a.tmps).run P w = .ok (if h : Vs.toArray.size = 1 then Vs.toArray[0] else .tuple Vs.toArray) w := by
    have e : results fn a.tmps = (fn.results.mapM (resV a)) >>= fun vs => pure (if h : vs.size = 1 then vs[0] else .tuple vs) := by
      unfold results
      congr 1
    rw [e, Sem.run_bind, hm]
    rfl
  refine ⟨_, hres, ?_⟩
  have hl := hv.length
  match vs, Vs, hv, hl with
  | [], [], hv, _ => simp only [oneR, VR]; exact ⟨[], by simp, VRs.nil⟩
  | [x], [V], hv, _ =>
    simp only [oneR]
    simp only [VRs] at hv
    obtain ⟨V', Vs', e, h1, h2⟩ := hv
    cases e
    simpa using h1
  | x :: y :: vs, V :: V' :: Vs, hv, _ =>
    simp only [oneR, VR]
    exact ⟨V :: V' :: Vs, by simp, hv⟩

theorem run_ok (hY : TyOk P Y) (hmix : P.follows .mixedOrders = true) (hown : ∀ k l, Loc (own k l)) (hX : TabOk P Y own X) : ∀ n, ∀ m, m ≤ n → FnOk P (run own X m) := by
  intro n
  induction n with
  | zero =>
    intro m hm f l s v s' h
    obtain rfl : m = 0 := by omega
    simp [run, M.no] at h
  | succ n ih =>
    intro m hm
    rcases Nat.lt_or_ge m (n + 1) with hlt | hge
    · exact ih m (by omega)
    obtain rfl : m = n + 1 := by omega
    intro f l s v s' h β D B W w L hL hr hfr
    have h' : fnR own X (run own X n) f l s = some (v, s') := h
    unfold fnR at h'
    cases hx : X f with
    | none => rw [hx] at h'; simp [M.no] at h'
    | some pf =>
      rw [hx] at h'
      refine ⟨hX.call f pf hx _ _, ?_⟩
      cases pf with
      | own k => exact hX.own f k hx l s v s' h' β D B W w L hL hr hfr
      | f body res =>
        simp only at h'
        obtain ⟨fn, hfn, hc⟩ := hX.walk f body res hx
        simp only [cF] at hc
        obtain ⟨c, hbody, hc⟩ := bi_some hc
        obtain ⟨b1, hb1, hc⟩ := bi_some hc
        obtain ⟨rs, hrs, hc⟩ := bi_some hc
        cases hc
        obtain ⟨xe, s1, h1, h2⟩ := bind_some h'
        obtain ⟨x, e1⟩ := xe
        have hLoc := Loc.run hown X n
        have hm1 := (Loc.coR hLoc _ _ _ _ _ h1).2.1
        have fin : x ≠ some (.exit 0) → (∀ id, x ≠ some (.exit id)) → M.bind (resL e1 res) (fun vs => M.pure (oneR vs)) s1 = some (v, s') → Calls P f L.toArray w fun e w' => ∃ β' D' V, e = .returned V ∧ Ext β D β' D' s.n.num s'.n.num ∧ Rel β' D' B W s'.h w' ∧ VR β' D' v V := by
          intro _ hnx h2
          obtain ⟨vs, s2, h3, h4⟩ := bind_some h2
          obtain ⟨rfl, rfl⟩ := pure_some h4
          have hm2 := (Loc.resL e1 res _ _ _ h3).2.1
          refine calls_of_wp hfn hbody ?_
          refine co_ok hY hmix (ih n (Nat.le_refl _)) hLoc c body β D s s1 (argE l) e1 x _ w _ hb1 h1 hr (argE_ok hL _) (hfr.left hm2) ?_
          intro β' D' a' w' hx hrel her
          obtain ⟨g1, Vs, g2, g3⟩ := res_ok hY _ _ _ _ _ hrs h3 hrel her
          obtain ⟨V, hV, hv⟩ := results_ok g3 g2
          have done : a'.defers = [] ∧ ∃ v_1, (results fn a'.tmps).run P w' = .ok v_1 w' ∧ ∃ β'_1 D'_1 V, Ending.returned v_1 = .returned V ∧ Ext β D β'_1 D'_1 s.n.num s'.n.num ∧ Rel β'_1 D'_1 B W s'.h w' ∧ VR β'_1 D'_1 (oneR vs) V :=
            ⟨her.defers, V, hV, β', D', V, rfl, by rw [g1.2]; exact hx, g1.rel hrel, hv⟩
          cases x with
          | none => exact done
          | some ex =>
            cases ex with
            | ret => exact done
            | exit id => exact absurd rfl (hnx id)
        cases x with
        | none => exact fin (by simp) (by simp) h2
        | some ex =>
          cases ex with
          | ret => exact fin (by simp) (by simp) h2
          | exit id => simp [M.no] at h2
end
end Ev
end Go.Proofs.YthknbcbkibbncaaGreat

/- DERIVED. A closed call whose answer the evaluator finds true. -/
namespace Go.Proofs.YthknbcbkibbncaaGreat
namespace Ev
open Go.RowKit

def S0 : S := ⟨false, fun _ => none, Id.zero, [], []⟩

theorem rel_empty (w : World) : Rel (fun _ => ⟨0, 0, 0⟩) (fun _ => False) w.heap.size w S0.h w :=
  ⟨⟨fun id k h => (nomatch h), fun i j h => absurd rfl h, fun id h => h.elim, Nat.le_refl _⟩, Below.refl _ _⟩

theorem closed_ok {P : Program} {Y : Ty} {own : Nat → List AV → M AV} {X : Nat → Option PF} (hY : TyOk P Y) (hmix : P.follows .mixedOrders = true) (hown : ∀ k l, Loc (own k l)) (hX : TabOk P Y own X)
    {n f : Nat} {x : Bool} {s' : S} (h : (run own X n).fn f [] S0 = some (.b x, s')) (w : World) :
    Calls P f #[] w fun e w' => e = .returned (.bool x) ∧ Below w.heap.size w w' := by
  have h1 := (run_ok hY hmix hown hX n n (Nat.le_refl _) f [] S0 _ _ h (fun _ => ⟨0, 0, 0⟩) (fun _ => False) w.heap.size w w [] VRs.nil (rel_empty w) (fun _ _ _ h => h)).2
  refine h1.mono ?_
  rintro e w' ⟨β', D', V, rfl, hx, hr, hv⟩
  simp only [VR] at hv
  subst hv
  exact ⟨rfl, hr.bel⟩
end Ev
end Go.Proofs.YthknbcbkibbncaaGreat
