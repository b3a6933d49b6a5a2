/- DERIVED. The evaluator's operations against the model's: new blocks, what is built, what is turned into another type. -/
import Derived.Test.YtijnjnncgkhabaaEvQ4
import Derived.Laws.Tables
import Derived.Laws.MakeOwn
import Derived.Great.BuildSlice
namespace Go.Proofs.Ytijnjnncgkhabaa
namespace Ev
open Go.RowKit

section
variable {P : Program} {Y : Ty} {β : Id → CA} {D : Id → Prop} {B N : Nat} {W w : World} {s s' : S} {e : Env} {a : Act}

/-- Cells that are these values. -/
theorem Cells.ofVRs {l : List AV} {c : Array Value} {o : Nat} {Vs : List Value} (hl : VRs β D l Vs) (h1 : ∀ v ∈ l, v.one = true) (hc : ∀ j V, Vs[j]? = some V → c[o + j]? = some V) (hf : o + l.length ≤ c.size) : Cells β D c o l :=
  ⟨hf, h1, fun j v hv => let ⟨V, a, b⟩ := hl.get j v hv; ⟨V, hc j V a, b⟩⟩
theorem byteT_ok (hY : TyOk P Y) {t : TypeId} (h : byteT Y t = some true) : P.underlying t = some (.int .u8) := by
  unfold byteT at h
  rw [Option.bind_eq_some_iff] at h
  obtain ⟨d, hd, h⟩ := h
  have := under_ok hY hd
  cases d <;> simp [isB] at h
  rename_i k
  cases k <;> simp at h
  exact this
theorem guardB_some {b : Bool} {u : Unit} (h : guardB b = some u) : b = true := by cases b <;> simp [guardB] at h ⊢
theorem zeroT_ok (hY : TyOk P Y) {t : TypeId} {cs : List AV} (h : zeroT Y t = some cs) (β : Id → CA) (D : Id → Prop) :
    ∃ i z, P.info? t = some i ∧ i.zero = some z ∧ (∀ w, (zeroValue t).run P w = .ok z w) ∧ VRs β D cs z.cells.toList ∧ (∀ c ∈ cs, c.one = true) ∧ cs.length = i.size ∧ Y.t t = some i := by
  unfold zeroT at h
  simp only [Option.bind_eq_some_iff] at h
  obtain ⟨i, hi, z, hz, av, hav, l, hl, u, hu, h⟩ := h
  cases h
  have hp := hY.t t i hi
  obtain ⟨h1, h2⟩ := (ofV_ok hav β D).cells hl
  exact ⟨i, z, hp, hz, fun w => by simp [zeroValue, typeInfo, hp, hz], h1, h2, Nat.eq_of_beq_eq_true (guardB_some hu), hi⟩

theorem new_gives (hr : Rel β D B W s.h w) {z : Bool} {l : List AV} {v : AV} (h : newF z l s = some (v, s')) (hf : Fresh D s.n.num s'.n.num) {V : Value} (hl : VRs β D l V.cells.toList) (h1 : ∀ x ∈ l, x.one = true) (t : TypeId) :
    Gives P β D B W s s' v (do pure (.pointer (some (← newVar t V)))) w := by
  obtain ⟨id, u, h2, h3⟩ := bind_some h
  obtain ⟨rfl, rfl⟩ := pure_some h3
  have hid := (new_ok hr.hr h2).1
  refine Gives.fresh hr h2 hf (.inl rfl) V.cells t (0, 0) (fzok_zero _ _) (Cells.ofVRs (o := 0) hl h1 (fun j U hU => by simpa using hU) (by have := hl.length; simp at this; omega)) (fun _ => by have := hl.length; simp at this; omega) (V := .pointer (some ⟨w.heap.size, 0, none⟩)) ?_ ?_
  · simp [newVar, newRow]
  · simp only [VR]
    subst hid
    rw [named_same]
    exact ⟨.inr rfl, rfl⟩

theorem fold_set : ∀ (C : List Value) (k off : Nat) (cells : Array Value), off + k + C.length ≤ cells.size →
    ((C.zipIdx k).foldl (fun cs p => cs.setIfInBounds (off + p.2) p.1) cells).toList = cells.toList.take (off + k) ++ (C ++ cells.toList.drop (off + k + C.length))
  | [], k, off, cells, h => by simp
  | v :: C, k, off, cells, h => by
    simp only [List.zipIdx_cons, List.foldl_cons, List.length_cons] at h ⊢
    rw [fold_set C (k + 1) off _ (by simp; omega)]
    have hlt : off + k < cells.toList.length := by simp; omega
    simp only [Array.toList_setIfInBounds]
    rw [show off + (k + 1) = off + k + 1 by omega, List.take_succ_eq_append_getElem (by simp; omega)]
    simp only [List.take_set_of_le (Nat.le_refl _), List.getElem_set_self]
    rw [List.drop_set_of_lt (by omega), show off + k + 1 + C.length = off + k + (C.length + 1) by omega]
    simp
theorem fill_ok (he : ER β D N e a) {place place' : Nat → Option (Nat × Nat)} (hp : ∀ j om, place' j = some om → place j = some om) :
    ∀ {parts : List (Nat × Operand)} {ps : List Part} {cs l : List AV} {cells : Array Value}, cPs place' parts = some ps → fillL e ps cs = some l → VRs β D cs cells.toList → (∀ x ∈ cs, x.one = true) →
      ∃ out, Instr.fill place cells (parts.map fun p => (p.1, a.eval p.2)) = some out ∧ VRs β D l out.toList ∧ (∀ x ∈ l, x.one = true) ∧ l.length = cs.length
  | [], ps, cs, l, cells, hc, hf, hv, h1 => by
    simp only [cPs] at hc
    cases hc
    simp only [fillL] at hf
    cases hf
    exact ⟨cells, rfl, hv, h1, rfl⟩
  | jx :: parts, ps, cs, l, cells, hc, hf, hv, h1 => by
    simp only [cPs, Option.bind_eq_some_iff] at hc
    obtain ⟨om, hom, x, hx, as, has, hc⟩ := hc
    cases hc
    simp only [fillL] at hf
    split at hf
    · cases hf
    · rename_i lx hlx
      split at hf
      · rename_i hb
        simp only [Bool.and_eq_true] at hb
        have e1 : lx.length = om.2 := Nat.eq_of_beq_eq_true hb.1
        have e2 : om.1 + om.2 ≤ cs.length := Nat.le_of_ble_eq_true hb.2
        obtain ⟨k1, k2⟩ := (arg_ok he hx).cells hlx
        have s1 : (a.eval jx.2).cells.size = om.2 := by have := k1.length; simp at this; omega
        have s2 : cells.size = cs.length := by have := hv.length; simpa using this
        have hset : VRs β D (setL lx cs om.1) (((a.eval jx.2).cells.zipIdx.foldl (fun cs (p : Value × Nat) => cs.setIfInBounds (om.1 + p.2) p.1) cells).toList) := by
          have := fold_set (a.eval jx.2).cells.toList 0 om.1 cells (by simp; omega)
          rw [← Array.foldl_toList, Array.toList_zipIdx, this]
          unfold setL
          have hl := k1.length
          rw [Nat.add_zero, hl]
          exact (hv.take _).append (k1.append (hv.drop _))
        have hone : ∀ y ∈ setL lx cs om.1, y.one = true := by
          intro y hy
          simp only [setL, List.mem_append] at hy
          rcases hy with hy | hy | hy
          · exact h1 y (List.mem_of_mem_take hy)
          · exact k2 y hy
          · exact h1 y (List.mem_of_mem_drop hy)
        have hlen : (setL lx cs om.1).length = cs.length := by simp [setL]; omega
        obtain ⟨out, o1, o2, o3, o4⟩ := fill_ok he hp has hf hset hone
        refine ⟨out, ?_, o2, o3, o4.trans hlen⟩
        simp only [List.map_cons, Instr.fill, hp _ _ hom]
        rw [if_neg (by simp; omega)]
        exact o1
      · cases hf

theorem fldP_ok (hY : TyOk P Y) : ∀ {fs : List Field} {pl : List (Nat × Nat)}, fldP Y fs = some pl → fs.mapM (fun f => (P.info? f.type).map fun i => (f.offset, i.size)) = some pl
  | [], pl, h => by simp only [fldP] at h; cases h; rfl
  | f :: fs, pl, h => by
    simp only [fldP, Option.bind_eq_some_iff] at h
    obtain ⟨m, hm, l, hl, h⟩ := h
    cases h
    have := size_info hY hm
    cases hi : P.info? f.type with
    | none => simp [hi] at this
    | some i =>
      simp [hi] at this
      subst this
      simp [List.mapM_cons, hi, fldP_ok hY hl]
theorem build_ok (hY : TyOk P Y) (hr : Rel β D B W s.h w) (he : ER β D N e a) {t : TypeId} {parts : Array (Nat × Operand)} {cs : List AV} {ps : List Part} {v : AV} (hc : cBuild Y t parts.toList = some (.build cs ps))
    (h : (M.ofO (fillL e ps cs) fun l => M.pure (.ag l)) s = some (v, s')) : Gives P β D B W s s' v (Instr.build t (parts.map fun (i, x) => (i, a.eval x))) w := by
  obtain ⟨l, hl, h2⟩ := ofO_some h
  obtain ⟨rfl, rfl⟩ := pure_some h2
  simp only [cBuild, Option.bind_eq_some_iff] at hc
  obtain ⟨d, hd, cs', hcs, hc⟩ := hc
  obtain ⟨i, z, hi, hz, hzr, hzv, h1, hlen, hYt⟩ := zeroT_ok hY hcs β D
  have hu := under_ok hY hd
  have hparts : (parts.map fun (p : Nat × Operand) => (p.1, a.eval p.2)).toList = parts.toList.map fun p => (p.1, a.eval p.2) := by simp
  have fin : ∀ out : Array Value, P.built t (parts.map fun (p : Nat × Operand) => (p.1, a.eval p.2)).toList = some out → VRs β D l out.toList → (∀ x ∈ l, x.one = true) → Gives P β D B W s' s' (.ag l) (Instr.build t (parts.map fun (i, x) => (i, a.eval x))) w := fun out hb hv ho =>
    Gives.same hr (V := .agg out) (by simp only [VR]; exact ⟨out.toList, by simp, hv, ho⟩) (run_build w t _ out hb)
  cases d <;> try (cases hc; done)
  · -- an array
    rename_i n el
    simp only [Option.bind_eq_some_iff] at hc
    obtain ⟨m, hm, ps', hps, hc⟩ := hc
    cases hc
    obtain ⟨out, o1, o2, o3, o4⟩ := fill_ok (place := fun i => some (i * m, m)) he (fun j om h => h) hps hl hzv h1
    refine fin out ?_ o2 o3
    have hse := size_info hY hm
    cases hie : P.info? el with
    | none => simp [hie] at hse
    | some ie =>
      simp [hie] at hse
      subst hse
      unfold Program.built
      rw [hi, hu]
      simp only [hz, hie, hparts]
      exact o1
  · -- a struct
    rename_i fs
    simp only [Option.bind_eq_some_iff] at hc
    obtain ⟨pl, hpl, ps', hps, hc⟩ := hc
    cases hc
    obtain ⟨out, o1, o2, o3, o4⟩ := fill_ok (place := fun j => pl.toArray[j]?) he (fun j om h => by simpa using h) hps hl hzv h1
    refine fin out ?_ o2 o3
    unfold Program.built
    rw [hi, hu]
    simp only [hz, fldP_ok hY hpl, hparts]
    exact o1

theorem repL_length (l : List AV) : ∀ n, (repL l n).length = n * l.length
  | 0 => by simp [repL]
  | n + 1 => by simp [repL, repL_length l n, Nat.add_mul, Nat.add_comm]
theorem repL_get (l : List AV) : ∀ (n j : Nat), j < n * l.length → (repL l n)[j]? = l[j % l.length]?
  | 0, j, h => by simp at h
  | n + 1, j, h => by
    simp only [repL]
    by_cases hj : j < l.length
    · rw [List.getElem?_append_left hj, Nat.mod_eq_of_lt hj]
    · rw [List.getElem?_append_right (by omega), repL_get l n _ (by rw [Nat.add_mul] at h; omega)]
      congr 1
      rw [Nat.mod_eq_sub_mod (a := j) (by omega)]
theorem repL_one {l : List AV} (h : ∀ x ∈ l, x.one = true) : ∀ n, ∀ x ∈ repL l n, x.one = true
  | 0, x, hx => by simp [repL] at hx
  | n + 1, x, hx => by
    simp only [repL, List.mem_append] at hx
    rcases hx with hx | hx
    · exact h x hx
    · exact repL_one h n x hx
theorem made_vr {cs : List AV} {z : Array Value} (h : VRs β D cs z.toList) (n : Nat) : VRs β D (repL cs n) (madeCells z (n * cs.length)).toList := by
  have hz : z.size = cs.length := by have := h.length; simpa using this
  refine VRs.of ?_ fun j x V hx hV => ?_
  · simp [size_madeCells, repL_length]
  · have hj : j < n * cs.length := by
      rcases Nat.lt_or_ge j (n * cs.length) with h' | h'
      · exact h'
      · rw [List.getElem?_eq_none (by rw [repL_length]; exact h')] at hx; cases hx
    rw [repL_get cs n j hj] at hx
    obtain ⟨U, hU, hv⟩ := h.get _ x hx
    have hpos : 0 < cs.length := by
      rcases Nat.eq_zero_or_pos cs.length with h0 | h0
      · rw [h0] at hj; simp at hj
      · exact h0
    have hm : j % cs.length < z.size := by rw [hz]; exact Nat.mod_lt _ hpos
    simp [madeCells, hj, hz] at hV
    rw [hz] at hm
    simp at hU
    have e : z[j % cs.length]! = U := by
      rw [getElem!_def, hU]
    rw [e] at hV
    rw [← hV]
    exact hv
theorem bsl_ok (hY : TyOk P Y) (hr : Rel β D B W s.h w) (he : ER β D N e a) {t : TypeId} {len : Nat} {parts : Array (Nat × Operand)} {z : Bool} {cs : List AV} {len' : Nat} {ps : List Part} {v : AV} (hc : cBsl Y t len parts.toList = some (.bsl z cs len' ps))
    (h : (M.ofO (fillL e ps cs) fun l => bslF z len' l) s = some (v, s')) (hf : Fresh D s.n.num s'.n.num) : Gives P β D B W s s' v (Instr.buildSlice t len (parts.map fun (i, x) => (i, a.eval x))) w := by
  obtain ⟨l, hl, h2⟩ := ofO_some h
  obtain ⟨id, u, h3, h4⟩ := bind_some h2
  obtain ⟨rfl, rfl⟩ := pure_some h4
  simp only [cBsl, Option.bind_eq_some_iff] at hc
  obtain ⟨el, hel, m, hm, _, hg, z', hz', cs', hcs, ps', hps, hc⟩ := hc
  cases hc
  obtain ⟨i, zv, hi, hz, hzr, hzv, h1, hlen, hYt⟩ := zeroT_ok hY hcs β D
  have hu := elemS_ok hY hel
  have him : i.size = m := by have := size_info hY hm; simpa [hi] using this
  subst him
  have hg' : len * i.size ≤ 1048576 := Nat.le_of_ble_eq_true (guardB_some hg)
  have hrep := made_vr hzv len
  rw [hlen] at hrep
  obtain ⟨out, o1, o2, o3, o4⟩ := fill_ok (place := fun j => some (j * i.size, i.size)) he (fun j om h => h) hps hl hrep (repL_one h1 len)
  have hid := (new_ok hr.hr h3).1
  refine Gives.fresh hr h3 hf (.inl rfl) out el (0, 0) (fzok_zero _ _) (Cells.ofVRs (o := 0) o2 o3 (fun j U hU => by simpa using hU) (by have := o2.length; simp at this; omega)) (fun _ => by have := o2.length; simp at this; omega) (V := .slice (some ⟨w.heap.size, 0, none⟩) len len) ?_ ?_
  · have hparts : (parts.map fun (p : Nat × Operand) => (p.1, a.eval p.2)).toList = parts.toList.map fun p => (p.1, a.eval p.2) := by simp
    have hsmall : ¬ len * i.size > 2 ^ 24 := by omega
    by_cases h0 : len * i.size = 0
    · have e0 : madeCells zv.cells (len * i.size) = #[] := by simp [madeCells, h0]
      rw [e0] at o1
      simp [Instr.buildSlice, run_underlying hu, sizeOf, typeInfo, hi, h0, newRow, Array.range_zero', o1]
    · rw [← hparts] at o1
      exact run_buildSlice w t el len _ out i zv hu hi hz hsmall h0 o1
  · simp only [VR]
    subst hid
    rw [named_same]
    exact ⟨.inr rfl, rfl⟩
theorem mks_ok (hY : TyOk P Y) (hr : Rel β D B W s.h w) {t : TypeId} {z : Bool} {cs : List AV} {l c v : AV} {L C : Value} {el : TypeId} {i : TypeInfo} (hel : elemS Y t = some el) (hi : Y.t el = some i) (hg : Nat.ble i.bytes lim = true) (hcs : zeroT Y el = some cs)
    (h : mksF z cs l c s = some (v, s')) (hl : VR β D l L) (hc : VR β D c C) (hf : Fresh D s.n.num s'.n.num) : Gives P β D B W s s' v (Instr.makeSlice t L C) w := by
  obtain ⟨ln, hln, h⟩ := ofO_some h
  obtain ⟨cn, hcn, h⟩ := ofO_some h
  obtain ⟨hb, h⟩ := ifB_some h
  obtain ⟨id, u, h3, h4⟩ := bind_some h
  obtain ⟨rfl, rfl⟩ := pure_some h4
  obtain ⟨kl, rfl⟩ := natOf_ok hln hl
  obtain ⟨kc, rfl⟩ := natOf_ok hcn hc
  simp only [Bool.and_eq_true] at hb
  have b1 : ln ≤ cn := Nat.le_of_ble_eq_true hb.1
  have b2 : cn ≤ 1048576 := Nat.le_of_ble_eq_true hb.2
  have b3 : i.bytes ≤ 1048576 := Nat.le_of_ble_eq_true hg
  obtain ⟨i', zv, hi', hz, hzr, hzv, h1, hlen, hYt⟩ := zeroT_ok hY hcs β D
  obtain rfl : i' = i := by rw [hi] at hYt; cases hYt; rfl
  have hu := elemS_ok hY hel
  have hb : i'.bytes * cn ≤ 281474976710656 := Nat.le_trans (Nat.mul_le_mul b3 b2) (by omega)
  have hb' : (i'.bytes : Int) * (cn : Int) ≤ 281474976710656 := by rw [← Int.natCast_mul]; omega
  have hrun := run_make (P := P) w t el i' zv hu hi' hz kl kc ln cn (by omega) (by omega) hb' (by omega)
  have hrep := made_vr hzv cn
  rw [hlen] at hrep
  have hid := (new_ok hr.hr h3).1
  simp only [Int.toNat_natCast] at hrun
  refine Gives.fresh hr h3 hf (.inl rfl) _ el (0, 0) (fzok_zero _ _) (Cells.ofVRs (o := 0) hrep (repL_one h1 cn) (fun j U hU => by simpa using hU) (by have := hrep.length; simp at this; omega)) (fun _ => by have := hrep.length; simp at this; omega) hrun ?_
  simp only [VR]
  subst hid
  rw [named_same]
  exact ⟨.inr rfl, rfl⟩
end
end Ev
end Go.Proofs.Ytijnjnncgkhabaa
