/- DERIVED. What is known of the arguments that came in: slices, structs, numbers, cell by cell. -/
import Derived.Test.YtebiebcpdjipjaaFrame
import Derived.Deep.Slices
namespace Go.Proofs.Ytebiebcpdjipjaa
open Go.ChangeShapes Go.WideShapes Go.ChangeAt Go.RowKit
section
variable {H : Type} {enc : TypeId × Value → H} {P : Program} {W : World} {held : Bool} {sp : Nat → Bool}

theorem cell_lt {w : World} {b o : Nat} {s : Option Nat} {v : Value} (h : w.cell? ⟨b, o, s⟩ = some v) : b < w.heap.size := by
  unfold World.cell? at h
  rcases Nat.lt_or_ge b w.heap.size with h' | h'
  · exact h'
  · simp [Array.getElem?_eq_none h'] at h

theorem add_none (b off i : Nat) : (⟨b, off, none⟩ : Addr).add i = ⟨b, off + i, none⟩ := by
  unfold Addr.add
  split <;> simp_all

/-- A reading of cells: the fuel is not asked. -/
def Reads (enc : TypeId × Value → H) (P : Program) (W : World) (sp : Nat → Bool) (held : Bool) (t : TypeId) (cs : List Value) (d : DataW H) : Prop := ∃ fuel ps, DataW.trod enc P W 0 sp held fuel t cs = some (d, ps)

theorem Reads.of {t : TypeId} {v : Value} {d : DataW H} {ps : List MemPlace} (h : DataW.Trod enc P W 0 sp held t v d ps) : Reads enc P W sp held t v.cells.toList d := by
  obtain ⟨fuel, h⟩ := h
  exact ⟨fuel, ps, h⟩

theorem Reads.int {t : TypeId} {k : IntKind} {cs : List Value} {d : DataW H} (ht : P.underlying t = some (.int k)) (h : Reads enc P W sp held t cs d) : ∃ n, cs = [.int k n] ∧ d = .lit (.int k n) ∧ (Lit.int k n).wf = true := by
  obtain ⟨fuel, ps, h⟩ := h
  obtain ⟨n, rfl, hx, hw⟩ := DataW.trod_int ht h
  exact ⟨n, rfl, congrArg Prod.fst hx, hw⟩
theorem Reads.bool {t : TypeId} {cs : List Value} {d : DataW H} (ht : P.underlying t = some .bool) (h : Reads enc P W sp held t cs d) : ∃ b, cs = [.bool b] ∧ d = .lit (.bool b) := by
  obtain ⟨fuel, ps, h⟩ := h
  obtain ⟨n, rfl, hx⟩ := DataW.trod_bool ht h
  exact ⟨n, rfl, congrArg Prod.fst hx⟩

/-- A slice's cells: nil, or a row of elements that read. -/
def SliceIs (enc : TypeId × Value → H) (P : Program) (W : World) (sp : Nat → Bool) (held : Bool) (e : TypeId) (oa : Option Addr) (len cap : Nat) (D : Nat → DataW H) : Prop :=
  len ≤ cap ∧ cap ≤ maxLen ∧ ∀ i, i < len → ∃ b off cs, oa = some ⟨b, off, none⟩ ∧ b < W.heap.size ∧ cs.length = P.cellsOf e ∧ (∀ j, j < P.cellsOf e → W.cell? ⟨b, off + i * P.cellsOf e + j, none⟩ = cs[j]?) ∧ Reads enc P W sp held e cs (D i)

theorem Reads.slice {t e : TypeId} {cs : List Value} {d : DataW H} (ht : P.underlying t = some (.slice e)) (hn : 0 < P.cellsOf e) (h : Reads enc P W sp held t cs d) :
    ∃ oa len cap D sparl, cs = [.slice oa len cap] ∧ SliceIs enc P W sp held e oa len cap D ∧ (d = .nil ∧ len = 0 ∧ cap = 0 ∧ oa = none ∨ d = .slice ((List.range len).map D) sparl ∧ (∀ b, (∀ a, oa = some a → a.block = b) → sp b = true → sparl.length = cap - len)) := by
  obtain ⟨fuel, ps, h⟩ := h
  rcases Deep.open_slice ht h with ⟨rfl, hx⟩ | ⟨a, len, cap, m, n, D, Pl, rfl, hb, hl, hm, hmm, hx, hcell⟩
  · exact ⟨none, 0, 0, fun _ => .nil, [], rfl, ⟨Nat.le_refl _, Nat.zero_le _, fun i hi => absurd hi (Nat.not_lt_zero _)⟩, .inl ⟨congrArg Prod.fst hx, rfl, rfl, rfl⟩⟩
  · refine ⟨some a, len, cap, D, _, rfl, ⟨hl, hm, ?_⟩, .inr ⟨congrArg Prod.fst hx, ?_⟩⟩
    · intro i hi
      have him : i < m := by rw [hmm]; split <;> omega
      obtain ⟨cs', h1, h2⟩ := hcell i him
      obtain ⟨hbase, hlen, hc⟩ := World.cells?_some h1
      obtain ⟨b, off, s⟩ := a
      obtain ⟨cs0, g1, _⟩ := hcell 0 (by omega)
      obtain ⟨_, glen, gc⟩ := World.cells?_some g1
      have h0 := gc 0 hn
      rw [List.getElem?_eq_getElem (show 0 < cs0.length by omega)] at h0
      have hs : s = none := by
        cases s with
        | none => rfl
        | some s =>
          exfalso
          simp only [Addr.add, World.cell?, Nat.zero_mul, if_true] at h0
          split at h0 <;> simp at h0
      subst hs
      refine ⟨b, off, cs', rfl, cell_lt (b := b) (o := off) (s := none) (by simpa [Addr.add] using h0), hlen, ?_, ⟨_, _, h2⟩⟩
      intro j hj
      have := hc j hj
      rw [add_none, add_none] at this
      exact this
    · intro b hab hsp
      simp only [List.length_map, List.length_range]
      rw [hmm, if_pos (by rw [hab a rfl]; exact hsp)]

theorem Reads.fields {t : TypeId} {fs : Array Field} {cs : List Value} {d : DataW H} (ht : P.underlying t = some (.struct fs)) (h : Reads enc P W sp held t cs d) :
    cs.length = P.cellsOf t ∧ ∃ D : Nat → DataW H, d = .agg ((List.range fs.size).map D) ∧ ∀ (i : Nat) (f : Field), fs[i]? = some f → Reads enc P W sp held f.type ((cs.drop f.offset).take (P.cellsOf f.type)) (D i) := by
  obtain ⟨fuel, ps, h⟩ := h
  obtain ⟨xs, n, rfl, hx, hl, hxl, hf⟩ := DataW.trod_struct ht h
  refine ⟨hl, fun i => (xs[i]?.map (·.1)).getD .nil, ?_, ?_⟩
  · rw [show d = .agg (xs.map (·.1)) from congrArg Prod.fst hx]
    congr 1
    apply List.ext_getElem?
    intro i
    rw [List.getElem?_map, List.getElem?_map]
    by_cases hi : i < fs.size
    · rw [List.getElem?_range hi, List.getElem?_eq_getElem (by omega)]
      simp [List.getElem?_eq_getElem (show i < xs.length by omega)]
    · rw [List.getElem?_eq_none (by omega), List.getElem?_eq_none (by simp; omega)]
      rfl
  · intro i f hif
    have hi : i < fs.size := by
      rcases Nat.lt_or_ge i fs.size with h' | h'
      · exact h'
      · rw [Array.getElem?_eq_none h'] at hif; cases hif
    have h1 := hf i f hif
    rw [List.getElem?_eq_getElem (by omega)] at h1
    refine ⟨n, (xs[i]'(by omega)).2, ?_⟩
    rw [h1]
    simp [List.getElem?_eq_getElem (show i < xs.length by omega)]
end
theorem i64_bd {n : Int} (h : (Lit.int .i64 n).wf = true) : -9223372036854775808 ≤ n ∧ n ≤ 9223372036854775807 := by
  simp [Lit.wf, IntKind.min, IntKind.max, IntKind.signed, IntKind.bits] at h
  omega
theorem u64_bd {n : Int} (h : (Lit.int .u64 n).wf = true) : 0 ≤ n ∧ n ≤ 18446744073709551615 := by
  simp [Lit.wf, IntKind.min, IntKind.max, IntKind.signed, IntKind.bits] at h
  omega
theorem u8_bd {n : Int} (h : (Lit.int .u8 n).wf = true) : 0 ≤ n ∧ n ≤ 255 := by
  simp [Lit.wf, IntKind.min, IntKind.max, IntKind.signed, IntKind.bits] at h
  omega
end Go.Proofs.Ytebiebcpdjipjaa
