/- DERIVED. What is known of the arguments that came in: slices, structs, numbers, cell by cell. -/
import Derived.Deep.Slices
import Derived.OrdersHeld
import Derived.Deep.RegionHeld
import Derived.WalkKit
import Derived.WalkSpells
import Derived.WalkLawsBesides
import Derived.Lib.Hide
import Derived.Deep.QuietTactic
import Derived.BigQuiet
import Derived.StillTailTactics
import Derived.Test.YtfdgamlakfkekaaQO1
set_option linter.all false
namespace Go.Proofs.Ytfdgamlakfkekaa
open Go.ChangeShapes Go.WideShapes Go.ChangeAt Go.RowKit
section
variable {H : Type} {enc : TypeId × Value → H} {P : Program} {W : World} {held : Bool} {sp : Nat → Bool}

theorem cell_lt {w : World} {b o : Nat} {s : Option Nat} {v : Value} (h : w.cell? ⟨b, o, s⟩ = some v) : b < w.heap.size := by
  unfold World.cell? at h
  rcases Nat.lt_or_ge b w.heap.size with h' | h'
  · exact h'
  · simp [Array.getElem?_eq_none h'] at h

theorem add_none (b off i : Nat) : (⟨b, off, none⟩ : Addr).add i = ⟨b, off + i, none⟩ := by
  unfold Addr.add
  split <;> simp_all

/-- A reading of cells: the fuel is not asked. -/
def Reads (enc : TypeId × Value → H) (P : Program) (W : World) (sp : Nat → Bool) (held : Bool) (t : TypeId) (cs : List Value) (d : DataW H) : Prop := ∃ fuel ps, DataW.trod enc P W 0 sp held fuel t cs = some (d, ps)

theorem Reads.of {t : TypeId} {v : Value} {d : DataW H} {ps : List MemPlace} (h : DataW.Trod enc P W 0 sp held t v d ps) : Reads enc P W sp held t v.cells.toList d := by
  obtain ⟨fuel, h⟩ := h
  exact ⟨fuel, ps, h⟩

theorem Reads.int {t : TypeId} {k : IntKind} {cs : List Value} {d : DataW H} (ht : P.underlying t = some (.int k)) (h : Reads enc P W sp held t cs d) : ∃ n, cs = [.int k n] ∧ d = .lit (.int k n) ∧ (Lit.int k n).wf = true := by
  obtain ⟨fuel, ps, h⟩ := h
  obtain ⟨n, rfl, hx, hw⟩ := DataW.trod_int ht h
  exact ⟨n, rfl, congrArg Prod.fst hx, hw⟩
theorem Reads.bool {t : TypeId} {cs : List Value} {d : DataW H} (ht : P.underlying t = some .bool) (h : Reads enc P W sp held t cs d) : ∃ b, cs = [.bool b] ∧ d = .lit (.bool b) := by
  obtain ⟨fuel, ps, h⟩ := h
  obtain ⟨n, rfl, hx⟩ := DataW.trod_bool ht h
  exact ⟨n, rfl, congrArg Prod.fst hx⟩

/-- A slice's cells: nil, or a row of elements that read. -/
def SliceIs (enc : TypeId × Value → H) (P : Program) (W : World) (sp : Nat → Bool) (held : Bool) (e : TypeId) (oa : Option Addr) (len cap : Nat) (D : Nat → DataW H) : Prop :=
  len ≤ cap ∧ cap ≤ maxLen ∧ ∀ i, i < len → ∃ b off cs, oa = some ⟨b, off, none⟩ ∧ b < W.heap.size ∧ cs.length = P.cellsOf e ∧ (∀ j, j < P.cellsOf e → W.cell? ⟨b, off + i * P.cellsOf e + j, none⟩ = cs[j]?) ∧ Reads enc P W sp held e cs (D i)

theorem Reads.slice {t e : TypeId} {cs : List Value} {d : DataW H} (ht : P.underlying t = some (.slice e)) (hn : 0 < P.cellsOf e) (h : Reads enc P W sp held t cs d) :
    ∃ oa len cap D sparl, cs = [.slice oa len cap] ∧ SliceIs enc P W sp held e oa len cap D ∧ (d = .nil ∧ len = 0 ∧ cap = 0 ∧ oa = none ∨ d = .slice ((List.range len).map D) sparl ∧ (∀ b, (∀ a, oa = some a → a.block = b) → sp b = true → sparl.length = cap - len)) := by
  obtain ⟨fuel, ps, h⟩ := h
  rcases Deep.open_slice ht h with ⟨rfl, hx⟩ | ⟨a, len, cap, m, n, D, Pl, rfl, hb, hl, hm, hmm, hx, hcell⟩
  · exact ⟨none, 0, 0, fun _ => .nil, [], rfl, ⟨Nat.le_refl _, Nat.zero_le _, fun i hi => absurd hi (Nat.not_lt_zero _)⟩, .inl ⟨congrArg Prod.fst hx, rfl, rfl, rfl⟩⟩
  · refine ⟨some a, len, cap, D, _, rfl, ⟨hl, hm, ?_⟩, .inr ⟨congrArg Prod.fst hx, ?_⟩⟩
    · intro i hi
      have him : i < m := by rw [hmm]; split <;> omega
      obtain ⟨cs', h1, h2⟩ := hcell i him
      obtain ⟨hbase, hlen, hc⟩ := World.cells?_some h1
      obtain ⟨b, off, s⟩ := a
      obtain ⟨cs0, g1, _⟩ := hcell 0 (by omega)
      obtain ⟨_, glen, gc⟩ := World.cells?_some g1
      have h0 := gc 0 hn
      rw [List.getElem?_eq_getElem (show 0 < cs0.length by omega)] at h0
      have hs : s = none := by
        cases s with
        | none => rfl
        | some s =>
          exfalso
          simp only [Addr.add, World.cell?, Nat.zero_mul, if_true] at h0
          split at h0 <;> simp at h0
      subst hs
      refine ⟨b, off, cs', rfl, cell_lt (b := b) (o := off) (s := none) (by simpa [Addr.add] using h0), hlen, ?_, ⟨_, _, h2⟩⟩
      intro j hj
      have := hc j hj
      rw [add_none, add_none] at this
      exact this
    · intro b hab hsp
      simp only [List.length_map, List.length_range]
      rw [hmm, if_pos (by rw [hab a rfl]; exact hsp)]

theorem Reads.fields {t : TypeId} {fs : Array Field} {cs : List Value} {d : DataW H} (ht : P.underlying t = some (.struct fs)) (h : Reads enc P W sp held t cs d) :
    cs.length = P.cellsOf t ∧ ∃ D : Nat → DataW H, d = .agg ((List.range fs.size).map D) ∧ ∀ (i : Nat) (f : Field), fs[i]? = some f → Reads enc P W sp held f.type ((cs.drop f.offset).take (P.cellsOf f.type)) (D i) := by
  obtain ⟨fuel, ps, h⟩ := h
  obtain ⟨xs, n, rfl, hx, hl, hxl, hf⟩ := DataW.trod_struct ht h
  refine ⟨hl, fun i => (xs[i]?.map (·.1)).getD .nil, ?_, ?_⟩
  · rw [show d = .agg (xs.map (·.1)) from congrArg Prod.fst hx]
    congr 1
    apply List.ext_getElem?
    intro i
    rw [List.getElem?_map, List.getElem?_map]
    by_cases hi : i < fs.size
    · rw [List.getElem?_range hi, List.getElem?_eq_getElem (by omega)]
      simp [List.getElem?_eq_getElem (show i < xs.length by omega)]
    · rw [List.getElem?_eq_none (by omega), List.getElem?_eq_none (by simp; omega)]
      rfl
  · intro i f hif
    have hi : i < fs.size := by
      rcases Nat.lt_or_ge i fs.size with h' | h'
      · exact h'
      · rw [Array.getElem?_eq_none h'] at hif; cases hif
    have h1 := hf i f hif
    rw [List.getElem?_eq_getElem (by omega)] at h1
    refine ⟨n, (xs[i]'(by omega)).2, ?_⟩
    rw [h1]
    simp [List.getElem?_eq_getElem (show i < xs.length by omega)]
end
theorem i64_bd {n : Int} (h : (Lit.int .i64 n).wf = true) : -9223372036854775808 ≤ n ∧ n ≤ 9223372036854775807 := by
  simp [Lit.wf, IntKind.min, IntKind.max, IntKind.signed, IntKind.bits] at h
  omega
theorem u64_bd {n : Int} (h : (Lit.int .u64 n).wf = true) : 0 ≤ n ∧ n ≤ 18446744073709551615 := by
  simp [Lit.wf, IntKind.min, IntKind.max, IntKind.signed, IntKind.bits] at h
  omega
theorem u8_bd {n : Int} (h : (Lit.int .u8 n).wf = true) : 0 ≤ n ∧ n ≤ 255 := by
  simp [Lit.wf, IntKind.min, IntKind.max, IntKind.signed, IntKind.bits] at h
  omega
end Go.Proofs.Ytfdgamlakfkekaa

/- DERIVED. What is known of the arguments that came in: numbers, slices of whatever elements; their weights. -/
namespace Go.Proofs.Ytfdgamlakfkekaa
open Go.ChangeShapes Go.WideShapes Go.ChangeAt Go.RowKit
section
variable {H : Type} {enc : TypeId × Value → H} {P : Program} {W : World}
theorem int_came {base : Nat} {t : TypeId} {k : IntKind} {v : Value} {d : DataW H} {ps : List MemPlace} (ht : P.underlying t = some (.int k)) (hval : Value.okWide P W .any base t v) (h : DataW.Trod enc P W 0 (fun _ => true) true t v d ps) :
    ∃ n, v = .int k n ∧ (Lit.int k n).wf = true := by
  obtain ⟨n, rfl⟩ := okWide_int ht hval
  obtain ⟨m, h1, _, h2⟩ := (Reads.of h).int ht
  simp [Value.cells] at h1
  subst h1
  exact ⟨_, rfl, h2⟩
theorem slice_came {base : Nat} {t e : TypeId} {v : Value} {d : DataW H} {ps : List MemPlace} (ht : P.underlying t = some (.slice e)) (hn : 0 < P.cellsOf e) (hval : Value.okWide P W .any base t v) (h : DataW.Trod enc P W 0 (fun _ => true) true t v d ps)
    (hw : (DataW.weights P t d).all (· ≤ reachBytes) = true) :
    ∃ oa len cap, v = .slice oa len cap ∧ len * P.bytesOf e ≤ 140737488351232 ∧
      ∀ i, i < len → ∃ b off cs D, oa = some ⟨b, off, none⟩ ∧ b < W.heap.size ∧ cs.length = P.cellsOf e ∧ (∀ j, j < P.cellsOf e → W.cell? ⟨b, off + i * P.cellsOf e + j, none⟩ = cs[j]?) ∧ Reads enc P W (fun _ => true) true e cs D := by
  obtain ⟨oa, len, cap, rfl⟩ := okWide_slice ht hval
  obtain ⟨oa', len', cap', D, spl, hcs, ⟨hl, hm, hc⟩, hd⟩ := (Reads.of h).slice ht hn
  simp only [Value.cells, List.cons.injEq, Value.slice.injEq, and_true] at hcs
  obtain ⟨rfl, rfl, rfl⟩ := hcs
  refine ⟨oa, len, cap, rfl, ?_, fun i hi => ?_⟩
  · rcases hd with ⟨_, h0, _⟩ | ⟨rfl, _⟩
    · subst h0; omega
    · simp only [DataW.weights, ht, List.all_cons, Bool.and_eq_true, List.length_map, List.length_range, reachBytes] at hw
      have hw1 := of_decide_eq_true hw.1
      have : len * P.bytesOf e ≤ (len + spl.length) * P.bytesOf e := Nat.mul_le_mul_right _ (by omega)
      omega
  · obtain ⟨b, off, cs, h1, h2, h3, h4, h5⟩ := hc i hi
    exact ⟨b, off, cs, D i, h1, h2, h3, h4, h5⟩
theorem weights_one {t : TypeId} {d : DataW H} (h : (DataW.weightsEach P [t] [d]).all (· ≤ reachBytes) = true) : (DataW.weights P t d).all (· ≤ reachBytes) = true := by
  simp only [DataW.weightsEach, List.all_append, Bool.and_eq_true] at h
  exact h.1
theorem weights_two {t t' : TypeId} {d d' : DataW H} (h : (DataW.weightsEach P [t, t'] [d, d']).all (· ≤ reachBytes) = true) : (DataW.weights P t d).all (· ≤ reachBytes) = true ∧ (DataW.weights P t' d').all (· ≤ reachBytes) = true := by
  simp only [DataW.weightsEach, List.all_append, Bool.and_eq_true] at h
  exact ⟨h.1, h.2.1⟩
theorem weights_three {t t' t'' : TypeId} {d d' d'' : DataW H} (h : (DataW.weightsEach P [t, t', t''] [d, d', d'']).all (· ≤ reachBytes) = true) :
    (DataW.weights P t d).all (· ≤ reachBytes) = true ∧ (DataW.weights P t' d').all (· ≤ reachBytes) = true ∧ (DataW.weights P t'' d'').all (· ≤ reachBytes) = true := by
  simp only [DataW.weightsEach, List.all_append, Bool.and_eq_true] at h
  exact ⟨h.1, h.2.1, h.2.2.1⟩
theorem weights_four {t t' t'' t3 : TypeId} {d d' d'' d3 : DataW H} (h : (DataW.weightsEach P [t, t', t'', t3] [d, d', d'', d3]).all (· ≤ reachBytes) = true) :
    (DataW.weights P t d).all (· ≤ reachBytes) = true ∧ (DataW.weights P t' d').all (· ≤ reachBytes) = true ∧ (DataW.weights P t'' d'').all (· ≤ reachBytes) = true ∧ (DataW.weights P t3 d3).all (· ≤ reachBytes) = true := by
  simp only [DataW.weightsEach, List.all_append, Bool.and_eq_true] at h
  exact ⟨h.1, h.2.1, h.2.2.1, h.2.2.2.1⟩
end
end Go.Proofs.Ytfdgamlakfkekaa

/- DERIVED. A region that draws its order, whose last operations store into cells that it loads: the held condition is asked for only till one of those stores has come. -/
namespace Go.Proofs.Ytfdgamlakfkekaa

/-- One of the tail's operations has come. -/
def dead (tail : List Nat) (listed : Array Bool) : Bool := tail.any fun j => listed.getD j false
/-- Each of the tail's operations waits for number i. -/
def waits (md : Region.Mode) (ops : Array Oper) (tail : List Nat) (i : Nat) : Bool :=
  tail.all fun j => (ops[j]?).elim true fun o => o.after.any fun e => Region.binds md e && e.on == i

section
variable {P : Program} {ops : Array Oper} {Q : Exit → Act → World → Prop} {md : Region.Mode} {S : World → Prop} {tail : List Nat}

def wpTill (P : Program) (md : Region.Mode) (ops : Array Oper) (Q : Exit → Act → World → Prop) (S : World → Prop) (tail : List Nat) : Nat → Array Bool → Act → World → Prop
  | 0, l, a, w => Region.ready md ops l = [] ∧ Q .normal a w
  | n + 1, l, a, w => (Region.ready md ops l = [] → Q .normal a w) ∧
      ∀ i ∈ Region.ready md ops l, wpOp P ops Q i (fun a' w' => (dead tail (l.setIfInBounds i true) = false → S w') ∧ wpTill P md ops Q S tail n (l.setIfInBounds i true) a' w') a w

theorem wpAny_of_till : ∀ (n : Nat) (l : Array Bool) (a : Act) (w : World), wpTill P md ops Q S tail n l a w → wpAny P md ops Q n l a w
  | 0, _, _, _, h => h
  | n + 1, _, _, _, h => ⟨h.1, fun i hi => wpOp_mono (fun _ _ h' => wpAny_of_till n _ _ _ h'.2) (h.2 i hi)⟩

theorem dead_set {l : Array Bool} {j : Nat} (h : dead tail l = false) (hj : j ∉ tail) : dead tail (l.setIfInBounds j true) = false := by
  unfold dead at *
  rw [List.any_eq_false] at *
  intro k hk
  have h1 := h k hk
  rw [getD_set_ne false (fun e => hj (by rw [e]; exact hk))]
  exact h1
/-- Who waits for a number that has not come cannot come. -/
theorem ready_waits {l : Array Bool} {i j : Nat} {o : Oper} (hj : j ∈ Region.ready md ops l) (ho : ops[j]? = some o) (hi : l.getD i true = false) : ∀ e ∈ o.after, Region.binds md e = true → e.on ≠ i := by
  intro e he hb heq
  obtain ⟨_, o', ho', hall⟩ := mem_ready.1 hj
  rw [ho] at ho'
  cases ho'
  have h1 := hall e he hb
  rw [heq] at h1
  rcases Nat.lt_or_ge i l.size with h' | h'
  · simp [h'] at hi h1
    rw [hi] at h1
    cases h1
  · simp [Array.getElem?_eq_none h'] at h1

theorem wpTill_first {i : Nat} {oi : Oper} {v : Value} (hi : ops[i]? = some oi) (hsel : ∀ (j : Nat) (o : Oper) cs b, ops[j]? = some o → o.op ≠ .select cs b)
    (hQ : ∀ c a w, Q (.panic c) (a.put oi.dst v) w → Q (.panic c) a w) (hw : waits md ops tail i = true) (hit : i ∉ tail) :
    ∀ (n : Nat) (l : Array Bool) (a : Act) (w : World), dead tail l = false →
      (∀ j oj, ops[j]? = some oj → j ≠ i → l.getD j true = false → (∀ e ∈ oj.after, Region.binds md e = true → e.on ≠ i) → oi.apart ops oj = true) →
      i ∈ Region.ready md ops l → YieldsIf P ops S oi v a → S w →
      wpTill P md ops Q S tail n (l.setIfInBounds i true) (a.put oi.dst v) w → wpTill P md ops Q S tail (n + 1) l a w := by
  intro n
  induction n with
  | zero =>
    intro l a w _ _ hr hy hS H
    refine ⟨fun h => (by rw [h] at hr; cases hr), fun j hj => ?_⟩
    by_cases e : j = i
    · subst e
      exact hy.wpOp hi hS ⟨fun _ => hS, H⟩
    · have := ready_mono hj e
      rw [H.1] at this
      cases this
  | succ n ih =>
    intro l a w hd hfree hr hy hS H
    refine ⟨fun h => (by rw [h] at hr; cases hr), fun j hj => ?_⟩
    by_cases e : j = i
    · subst e
      exact hy.wpOp hi hS ⟨fun _ => hS, H⟩
    · have hiu := (mem_ready.1 hr).1
      obtain ⟨hju, oj, hoj, _⟩ := mem_ready.1 hj
      have hno := ready_waits hj hoj hiu
      have hjt : j ∉ tail := by
        intro hjt
        have h1 := List.all_eq_true.1 hw j hjt
        rw [hoj] at h1
        obtain ⟨e, he, hb⟩ := Array.any_eq_true'.1 h1
        simp only [Bool.and_eq_true, beq_iff_eq] at hb
        exact hno e he hb.1 hb.2
      have hd1 := dead_set hd hjt
      have hd2 := dead_set hd1 hit
      have h2 := wpOp_putIf hoj (hfree j oj hoj e hju hno) (fun cs b => hsel i oi cs b hi) (fun cs b => hsel j oj cs b hoj) hQ hy (H.2 j (ready_mono hj e))
      refine wpOp_mono (fun a' w' h3 => ?_) h2
      obtain ⟨h4, h5, h6⟩ := h3
      rw [Array.setIfInBounds_comm _ _ (Ne.symm e)] at h5 h6
      refine ⟨fun _ => h5 hd2, ih (l.setIfInBounds j true) a' w' hd1 (fun k ok hk hki hun hnk => hfree k ok hk hki ?_ hnk) (ready_mono hr (Ne.symm e)) h4 (h5 hd2) h6⟩
      by_cases hjk : j = k
      · subst hjk
        exact hju
      · rw [getD_set_ne true hjk] at hun
        exact hun

theorem dead_out {l : Array Bool} {i : Nat} (hi : i ∉ tail) : dead tail (l.setIfInBounds i true) = dead tail l := by
  unfold dead
  rw [Bool.eq_iff_iff, List.any_eq_true, List.any_eq_true]
  constructor
  · rintro ⟨k, hk, h⟩
    rw [getD_set_ne false (fun e => hi (by rw [e]; exact hk))] at h
    exact ⟨k, hk, h⟩
  · rintro ⟨k, hk, h⟩
    refine ⟨k, hk, ?_⟩
    rw [getD_set_ne false (fun e => hi (by rw [e]; exact hk))]
    exact h
/-- What asks no world may be taken at any time. -/
theorem wpTill_first0 {i : Nat} {oi : Oper} {v : Value} (hi : ops[i]? = some oi) (hsel : ∀ (j : Nat) (o : Oper) cs b, ops[j]? = some o → o.op ≠ .select cs b)
    (hQ : ∀ c a w, Q (.panic c) (a.put oi.dst v) w → Q (.panic c) a w) (hit : i ∉ tail) :
    ∀ (n : Nat) (l : Array Bool) (a : Act) (w : World), (dead tail l = false → S w) →
      (∀ j oj, ops[j]? = some oj → j ≠ i → l.getD j true = false → (∀ e ∈ oj.after, Region.binds md e = true → e.on ≠ i) → oi.apart ops oj = true) →
      i ∈ Region.ready md ops l → YieldsIf P ops (fun _ => True) oi v a →
      wpTill P md ops Q S tail n (l.setIfInBounds i true) (a.put oi.dst v) w → wpTill P md ops Q S tail (n + 1) l a w := by
  intro n
  induction n with
  | zero =>
    intro l a w hS _ hr hy H
    refine ⟨fun h => (by rw [h] at hr; cases hr), fun j hj => ?_⟩
    by_cases e : j = i
    · subst e
      exact hy.wpOp hi trivial ⟨fun h => hS (by rw [← h, dead_out hit]), H⟩
    · have := ready_mono hj e
      rw [H.1] at this
      cases this
  | succ n ih =>
    intro l a w hS hfree hr hy H
    refine ⟨fun h => (by rw [h] at hr; cases hr), fun j hj => ?_⟩
    by_cases e : j = i
    · subst e
      exact hy.wpOp hi trivial ⟨fun h => hS (by rw [← h, dead_out hit]), H⟩
    · have hiu := (mem_ready.1 hr).1
      obtain ⟨hju, oj, hoj, _⟩ := mem_ready.1 hj
      have hno := ready_waits hj hoj hiu
      have h2 := wpOp_putIf hoj (hfree j oj hoj e hju hno) (fun cs b => hsel i oi cs b hi) (fun cs b => hsel j oj cs b hoj) hQ hy (H.2 j (ready_mono hj e))
      refine wpOp_mono (fun a' w' h3 => ?_) h2
      obtain ⟨h4, h5, h6⟩ := h3
      rw [Array.setIfInBounds_comm _ _ (Ne.symm e)] at h5 h6
      rw [dead_out hit] at h5
      refine ⟨h5, ih (l.setIfInBounds j true) a' w' h5 (fun k ok hk hki hun hnk => hfree k ok hk hki ?_ hnk) (ready_mono hr (Ne.symm e)) h4 h6⟩
      by_cases hjk : j = k
      · subst hjk
        exact hju
      · rw [getD_set_ne true hjk] at hun
        exact hun

/-! The moves of a walk. -/
theorem wpTill_take {i : Nat} {oi : Oper} {v : Value} {n : Nat} {l : Array Bool} {a : Act} {w : World} (hi : ops[i]? = some oi)
    (hs : (Region.noSelect ops && (Region.free md ops l i && ((Region.ready md ops l).contains i && (waits md ops tail i && (!tail.contains i && !dead tail l))))) = true)
    (hQ : ∀ c a w, Q (.panic c) (a.put oi.dst v) w → Q (.panic c) a w) (hy : YieldsIf P ops S oi v a) (hS : S w)
    (h : wpTill P md ops Q S tail n (l.setIfInBounds i true) (a.put oi.dst v) w) : wpTill P md ops Q S tail (n + 1) l a w := by
  simp only [Bool.and_eq_true, Bool.not_eq_true', List.contains_eq_mem, decide_eq_true_eq, decide_eq_false_iff_not] at hs
  exact wpTill_first hi (Region.noSelect_spec hs.1) hQ hs.2.2.2.1 hs.2.2.2.2.1 n l a w hs.2.2.2.2.2 (Region.free_spec hi hs.2.1) hs.2.2.1 hy hS h

theorem wpTill_take0 {i : Nat} {oi : Oper} {v : Value} {n : Nat} {l : Array Bool} {a : Act} {w : World} (hi : ops[i]? = some oi)
    (hs : (Region.noSelect ops && (Region.free md ops l i && ((Region.ready md ops l).contains i && !tail.contains i))) = true)
    (hQ : ∀ c a w, Q (.panic c) (a.put oi.dst v) w → Q (.panic c) a w) (hy : YieldsIf P ops (fun _ => True) oi v a) (hS : dead tail l = false → S w)
    (h : wpTill P md ops Q S tail n (l.setIfInBounds i true) (a.put oi.dst v) w) : wpTill P md ops Q S tail (n + 1) l a w := by
  simp only [Bool.and_eq_true, Bool.not_eq_true', List.contains_eq_mem, decide_eq_true_eq, decide_eq_false_iff_not] at hs
  exact wpTill_first0 hi (Region.noSelect_spec hs.1) hQ hs.2.2.2 n l a w hS (Region.free_spec hi hs.2.1) hs.2.2.1 hy h

/-- Each of the operations 'rs' comes next. -/
def AllTill (P : Program) (md : Region.Mode) (ops : Array Oper) (Q : Exit → Act → World → Prop) (S : World → Prop) (tail : List Nat) (n : Nat) (l : Array Bool) (a : Act) (w : World) (rs : List Nat) : Prop :=
  ∀ i ∈ rs, wpOp P ops Q i (fun a' w' => (dead tail (l.setIfInBounds i true) = false → S w') ∧ wpTill P md ops Q S tail n (l.setIfInBounds i true) a' w') a w
theorem AllTill.nil {n : Nat} {l : Array Bool} {a : Act} {w : World} : AllTill P md ops Q S tail n l a w [] := fun _ h => by cases h
/-- One before the tail: behind it S is shown anew. -/
theorem AllTill.cons {n : Nat} {l : Array Bool} {a : Act} {w : World} {i : Nat} {o : Oper} {rs : List Nat} (ho : ops[i]? = some o)
    (h : ∀ K' : Act → World → Prop, Shut (∀ a w, S w → (S w → wpTill P md ops Q S tail n (l.setIfInBounds i true) a w) → K' a w) → if Region.wanted o (yielded ops a.tmps) = true then Oper.wp P o a w K' Q else K' (a.put o.dst undef) w)
    (hs : AllTill P md ops Q S tail n l a w rs) : AllTill P md ops Q S tail n l a w (i :: rs) := fun j hj => by
  rcases List.mem_cons.1 hj with rfl | hj
  · exact wpOp_step ho (fun K' hK => h K' (fun a w hS hW => hK a w ⟨fun _ => hS, hW hS⟩))
  · exact hs j hj
/-- One of the tail, or behind it. -/
theorem AllTill.consD {n : Nat} {l : Array Bool} {a : Act} {w : World} {i : Nat} {o : Oper} {rs : List Nat} (ho : ops[i]? = some o) (hd : dead tail (l.setIfInBounds i true) = true)
    (h : ∀ K' : Act → World → Prop, Shut (∀ a w, wpTill P md ops Q S tail n (l.setIfInBounds i true) a w → K' a w) → if Region.wanted o (yielded ops a.tmps) = true then Oper.wp P o a w K' Q else K' (a.put o.dst undef) w)
    (hs : AllTill P md ops Q S tail n l a w rs) : AllTill P md ops Q S tail n l a w (i :: rs) := fun j hj => by
  rcases List.mem_cons.1 hj with rfl | hj
  · exact wpOp_step ho (fun K' hK => h K' (fun a w hW => hK a w ⟨fun e => absurd (hd.symm.trans e) (by decide), hW⟩))
  · exact hs j hj
/-- A stronger condition from here on. -/
theorem wpTill_more {S' : World → Prop} (h : ∀ w, S' w → S w) : ∀ {n : Nat} {l : Array Bool} {a : Act} {w : World}, wpTill P md ops Q S' tail n l a w → wpTill P md ops Q S tail n l a w
  | 0, _, _, _, k => k
  | n + 1, _, _, _, k => ⟨k.1, fun i hi => wpOp_mono (fun _ _ k' => ⟨fun e => h _ (k'.1 e), wpTill_more h k'.2⟩) (k.2 i hi)⟩
theorem wpTill_ready {rs : List Nat} {n : Nat} {l : Array Bool} {a : Act} {w : World} (hr : Region.ready md ops l = rs) (hne : rs ≠ [])
    (h : AllTill P md ops Q S tail n l a w rs) : wpTill P md ops Q S tail (n + 1) l a w := ⟨fun h0 => absurd (hr ▸ h0) hne, hr ▸ h⟩
theorem wpTill_done {l : Array Bool} {a : Act} {w : World} (hr : Region.ready md ops l = []) (h : Q .normal a w) : ∀ n, wpTill P md ops Q S tail n l a w
  | 0 => ⟨hr, h⟩
  | _ + 1 => ⟨fun _ => h, by rw [hr]; simp⟩
theorem wp_region_till (tail : List Nat) {id : Nat} {a : Act} {w : World} (hm : P.follows .mixedOrders = true) (hS : S w.drew)
    (h : S w.drew → wpTill P .any ops Q S tail ops.size (Array.replicate ops.size false) a w.drew) : (Code.region id ops true).wp P Q a w :=
  wp_region_any hm (wpAny_of_till _ _ _ _ (h hS))
end
end Go.Proofs.Ytfdgamlakfkekaa

/- DERIVED. Words for what a call may turn in memory: outside the named blocks, and of what was there, all is as it was. -/
namespace Go.Proofs.Ytfdgamlakfkekaa
open Go.RowKit

/-- Outside F the world w' is as w was, of what was there. -/
structure Upd (F : Nat → Prop) (w w' : World) : Prop where
  os : w'.os = w.os
  tape : w'.tape = w.tape
  output : w'.output = w.output
  size : w.heap.size ≤ w'.heap.size
  block : ∀ k, k < w.heap.size → ¬ F k → w'.heap[k]? = w.heap[k]?

theorem Upd.refl (F : Nat → Prop) (w : World) : Upd F w w := ⟨rfl, rfl, rfl, Nat.le_refl _, fun _ _ _ => rfl⟩
theorem Upd.trans {F G H : Nat → Prop} {a b c : World} (h : Upd F a b) (k : Upd G b c) (hF : ∀ i, i < a.heap.size → F i → H i) (hG : ∀ i, i < a.heap.size → G i → H i) : Upd H a c :=
  ⟨k.os.trans h.os, k.tape.trans h.tape, k.output.trans h.output, Nat.le_trans h.size k.size, fun i hi hn =>
    (k.block i (Nat.lt_of_lt_of_le hi h.size) (fun g => hn (hG i hi g))).trans (h.block i hi (fun f => hn (hF i hi f)))⟩
theorem Upd.mono {F G : Nat → Prop} {a b : World} (h : Upd F a b) (hF : ∀ i, i < a.heap.size → F i → G i) : Upd G a b := h.trans (Upd.refl G b) hF (fun _ _ g => g)
theorem Upd.then {F : Nat → Prop} {a b c : World} (h : Upd F a b) (k : Upd F b c) : Upd F a c := h.trans k (fun _ _ x => x) (fun _ _ x => x)
theorem Upd.drewN {F : Nat → Prop} {a b : World} (h : Upd F a b) (n : Nat) : Upd F a (b.drewN n) := ⟨h.os, h.tape, h.output, h.size, h.block⟩
theorem Upd.drew {F : Nat → Prop} {a b : World} (h : Upd F a b) : Upd F a b.drew := ⟨h.os, h.tape, h.output, h.size, h.block⟩
theorem Upd.setCell {F : Nat → Prop} {a b : World} (h : Upd F a b) (p : Addr) (hp : F p.block ∨ a.heap.size ≤ p.block) (u : Value) : Upd F a (b.setCell p u) :=
  h.trans (G := fun k => k = p.block) ⟨rfl, rfl, rfl, by simp [World.setCell], fun k _ hn => Below.heap_setCell _ _ _ _ hn⟩ (fun _ _ x => x)
    (fun i hi e => by subst e; rcases hp with hp | hp; exact hp; omega)
theorem Upd.alloc {F : Nat → Prop} {a b : World} (h : Upd F a b) (o : Obj) : Upd F a (b.alloc o) :=
  h.trans (G := fun _ => False) ⟨rfl, rfl, rfl, by simp, fun k hk _ => Below.heap_alloc _ _ _ hk⟩ (fun _ _ x => x) (fun _ _ x => x.elim)
theorem Upd.below {B : Nat} {a b : World} (h : Below B a b) : Upd (fun k => B ≤ k) a b := ⟨h.os, h.tape, h.output, h.size, fun k _ hn => h.block k (by omega)⟩
theorem Upd.toBelow {F : Nat → Prop} {a b : World} (h : Upd F a b) (hF : ∀ k, k < a.heap.size → ¬ F k) : Below a.heap.size a b :=
  ⟨h.os, h.tape, h.output, h.size, fun k hk => h.block k hk (hF k hk)⟩
theorem Upd.belowOf {F : Nat → Prop} {W a b : World} (hW : Below W.heap.size W a) (h : Upd F a b) (hF : ∀ k, k < W.heap.size → ¬ F k) : Below W.heap.size W b :=
  hW.trans ⟨h.os, h.tape, h.output, h.size, fun k hk => h.block k (Nat.lt_of_lt_of_le hk hW.size) (hF k hk)⟩

theorem Upd.onto {B : Nat} {F : Nat → Prop} {W a b : World} (hW : Below B W a) (h : Upd F a b) (hB : B ≤ a.heap.size) (hF : ∀ k, k < B → ¬ F k) : Below B W b :=
  hW.trans ⟨h.os, h.tape, h.output, h.size, fun k hk => h.block k (by omega) (hF k hk)⟩

theorem below_call {B : Nat} {W a b : World} (h : Below B W a) (hB : B ≤ a.heap.size) (k : Below a.heap.size a b) : Below B W b := h.trans (k.mono hB)

theorem heap_lt {w : World} {b : Nat} {o : Obj} (h : w.heap[b]? = some o) : b < w.heap.size := by
  rcases Nat.lt_or_ge b w.heap.size with h' | h'
  · exact h'
  · rw [Array.getElem?_eq_none h'] at h; cases h

theorem Upd.keeps {F : Nat → Prop} {w w' : World} (h : Upd F w w') {b : Nat} {o : Obj} (hb : w.heap[b]? = some o) (hF : ¬ F b) : w'.heap[b]? = some o := by
  rw [h.block b (heap_lt hb) hF]; exact hb

/-- A cell of a block that is known whole. -/
theorem cell_at {w : World} {b : Nat} {c : Array Value} {t : TypeId} {z : Nat × Nat} (h : w.heap[b]? = some (.cells c t z)) (i : Nat) : w.cell? ⟨b, i, none⟩ = c[i]? := by
  simp [World.cell?, h]
theorem free_at {w : World} {b : Nat} {c : Array Value} {t : TypeId} (h : w.heap[b]? = some (.cells c t (0, 0))) (i : Nat) : w.frozen? ⟨b, i, none⟩ = false := by
  simp [World.frozen?, h]
theorem set_at {w : World} {b : Nat} {c : Array Value} {t : TypeId} {z : Nat × Nat} (h : w.heap[b]? = some (.cells c t z)) (i : Nat) (v : Value) :
    (w.setCell ⟨b, i, none⟩ v).heap[b]? = some (.cells (c.setIfInBounds i v) t z) := by
  simp [World.setCell, Array.getElem?_modify, h]
theorem alloc_at (w : World) (o : Obj) : (w.alloc o).heap[w.heap.size]? = some o := by
  show (w.heap.push o)[w.heap.size]? = _
  simp
theorem alloc_old {w : World} {b : Nat} {o p : Obj} (h : w.heap[b]? = some p) : (w.alloc o).heap[b]? = some p := by
  rw [Below.heap_alloc _ _ _ (heap_lt h)]; exact h

theorem cells_new {w : World} {l : List Value} {cs : Array Value} {t : TypeId} {z : Nat × Nat} {b : Nat} (h : w.heap[b]? = some (.cells cs t z)) (hl : cs.toList = l) :
    ∀ (j : Nat) (u : Value), l[j]? = some u → w.cell? ((⟨b, 0, none⟩ : Addr).add j) = some u := by
  intro j u hj
  have e : (⟨b, 0, none⟩ : Addr).add j = ⟨b, j, none⟩ := by
    unfold Addr.add
    split <;> simp_all
  rw [e, cell_at h]
  subst hl
  simpa using hj
theorem below_keeps {B : Nat} {w w' : World} (h : Below B w w') {b : Nat} {o : Obj} (hb : w.heap[b]? = some o) (hF : b < B) : w'.heap[b]? = some o := by
  rw [h.block b hF]
  exact hb
theorem Upd.grown {F : Nat → Prop} {a w w' : World} {row : Option Nat} (h : Upd F a w) (hg : w.grownBy w' row) (hr : ∀ k, k < a.heap.size → row = some k → F k) : Upd F a w' :=
  h.trans (G := fun k => row = some k) ⟨hg.os, hg.tape, hg.output, hg.size, fun k hk hn => hg.block k hk (fun e => hn e.symm)⟩ (fun _ _ x => x) hr

theorem fn_end {v v' : Bool} (h : v = v') : Ending.returned (.bool v) = .returned (.bool v') := by rw [h]
theorem eqN (a b : Nat) : ((a : Int) == (b : Int)) = decide (a = b) := by
  rw [Bool.eq_iff_iff, beq_iff_eq, decide_eq_true_iff]
  omega
theorem ret_i64 {k : IntKind} {a b : Int} (h : a = b) : Ending.returned (.int k a) = .returned (.int k b) := by rw [h]
theorem cell_keep {B : Nat} {w w' : World} {a o : Nat} {v : Value} (h : Below B w w') (ha : a < B) (c : w.cell? ⟨a, o, none⟩ = some v) : w'.cell? ⟨a, o, none⟩ = some v := by
  rw [h.cell ha]
  exact c
end Go.Proofs.Ytfdgamlakfkekaa
