/- DERIVED. What is known of the arguments that came in: slices, structs, numbers, cell by cell. -/
import Derived.Deep.Slices
import Derived.WalkKit
import Derived.WalkSpells
import Derived.WalkLawsBesides
import Derived.Lib.Hide
import Derived.Deep.QuietTactic
import Derived.BigQuiet
import Derived.StillTailTactics
import Derived.Laws.CopyRow
import Derived.Laws.CopyOwn
import Derived.Laws.Append
import Derived.Lib.SliceRun
import Derived.Lib.AppendZeros
import Derived.Test.YtnneoeimgbemfaaGreatRows
import Derived.Test.YtnneoeimgbemfaaGreatQH1
set_option linter.all false
namespace Go.Proofs.YtnneoeimgbemfaaGreat
open Go.ChangeShapes Go.WideShapes Go.ChangeAt Go.RowKit
section
variable {H : Type} {enc : TypeId × Value → H} {P : Program} {W : World} {held : Bool} {sp : Nat → Bool}

theorem cell_lt {w : World} {b o : Nat} {s : Option Nat} {v : Value} (h : w.cell? ⟨b, o, s⟩ = some v) : b < w.heap.size := by
  unfold World.cell? at h
  rcases Nat.lt_or_ge b w.heap.size with h' | h'
  · exact h'
  · simp [Array.getElem?_eq_none h'] at h

theorem add_none (b off i : Nat) : (⟨b, off, none⟩ : Addr).add i = ⟨b, off + i, none⟩ := by
  unfold Addr.add
  split <;> simp_all

/-- A reading of cells: the fuel is not asked. -/
def Reads (enc : TypeId × Value → H) (P : Program) (W : World) (sp : Nat → Bool) (held : Bool) (t : TypeId) (cs : List Value) (d : DataW H) : Prop := ∃ fuel ps, DataW.trod enc P W 0 sp held fuel t cs = some (d, ps)

theorem Reads.of {t : TypeId} {v : Value} {d : DataW H} {ps : List MemPlace} (h : DataW.Trod enc P W 0 sp held t v d ps) : Reads enc P W sp held t v.cells.toList d := by
  obtain ⟨fuel, h⟩ := h
  exact ⟨fuel, ps, h⟩

theorem Reads.int {t : TypeId} {k : IntKind} {cs : List Value} {d : DataW H} (ht : P.underlying t = some (.int k)) (h : Reads enc P W sp held t cs d) : ∃ n, cs = [.int k n] ∧ d = .lit (.int k n) ∧ (Lit.int k n).wf = true := by
  obtain ⟨fuel, ps, h⟩ := h
  obtain ⟨n, rfl, hx, hw⟩ := DataW.trod_int ht h
  exact ⟨n, rfl, congrArg Prod.fst hx, hw⟩
theorem Reads.bool {t : TypeId} {cs : List Value} {d : DataW H} (ht : P.underlying t = some .bool) (h : Reads enc P W sp held t cs d) : ∃ b, cs = [.bool b] ∧ d = .lit (.bool b) := by
  obtain ⟨fuel, ps, h⟩ := h
  obtain ⟨n, rfl, hx⟩ := DataW.trod_bool ht h
  exact ⟨n, rfl, congrArg Prod.fst hx⟩

/-- A slice's cells: nil, or a row of elements that read. -/
def SliceIs (enc : TypeId × Value → H) (P : Program) (W : World) (sp : Nat → Bool) (held : Bool) (e : TypeId) (oa : Option Addr) (len cap : Nat) (D : Nat → DataW H) : Prop :=
  len ≤ cap ∧ cap ≤ maxLen ∧ ∀ i, i < len → ∃ b off cs, oa = some ⟨b, off, none⟩ ∧ b < W.heap.size ∧ cs.length = P.cellsOf e ∧ (∀ j, j < P.cellsOf e → W.cell? ⟨b, off + i * P.cellsOf e + j, none⟩ = cs[j]?) ∧ Reads enc P W sp held e cs (D i)

theorem Reads.slice {t e : TypeId} {cs : List Value} {d : DataW H} (ht : P.underlying t = some (.slice e)) (hn : 0 < P.cellsOf e) (h : Reads enc P W sp held t cs d) :
    ∃ oa len cap D sparl, cs = [.slice oa len cap] ∧ SliceIs enc P W sp held e oa len cap D ∧ (d = .nil ∧ len = 0 ∧ cap = 0 ∧ oa = none ∨ d = .slice ((List.range len).map D) sparl ∧ (∀ b, (∀ a, oa = some a → a.block = b) → sp b = true → sparl.length = cap - len)) := by
  obtain ⟨fuel, ps, h⟩ := h
  rcases Deep.open_slice ht h with ⟨rfl, hx⟩ | ⟨a, len, cap, m, n, D, Pl, rfl, hb, hl, hm, hmm, hx, hcell⟩
  · exact ⟨none, 0, 0, fun _ => .nil, [], rfl, ⟨Nat.le_refl _, Nat.zero_le _, fun i hi => absurd hi (Nat.not_lt_zero _)⟩, .inl ⟨congrArg Prod.fst hx, rfl, rfl, rfl⟩⟩
  · refine ⟨some a, len, cap, D, _, rfl, ⟨hl, hm, ?_⟩, .inr ⟨congrArg Prod.fst hx, ?_⟩⟩
    · intro i hi
      have him : i < m := by rw [hmm]; split <;> omega
      obtain ⟨cs', h1, h2⟩ := hcell i him
      obtain ⟨hbase, hlen, hc⟩ := World.cells?_some h1
      obtain ⟨b, off, s⟩ := a
      obtain ⟨cs0, g1, _⟩ := hcell 0 (by omega)
      obtain ⟨_, glen, gc⟩ := World.cells?_some g1
      have h0 := gc 0 hn
      rw [List.getElem?_eq_getElem (show 0 < cs0.length by omega)] at h0
      have hs : s = none := by
        cases s with
        | none => rfl
        | some s =>
          exfalso
          simp only [Addr.add, World.cell?, Nat.zero_mul, if_true] at h0
          split at h0 <;> simp at h0
      subst hs
      refine ⟨b, off, cs', rfl, cell_lt (b := b) (o := off) (s := none) (by simpa [Addr.add] using h0), hlen, ?_, ⟨_, _, h2⟩⟩
      intro j hj
      have := hc j hj
      rw [add_none, add_none] at this
      exact this
    · intro b hab hsp
      simp only [List.length_map, List.length_range]
      rw [hmm, if_pos (by rw [hab a rfl]; exact hsp)]

theorem Reads.fields {t : TypeId} {fs : Array Field} {cs : List Value} {d : DataW H} (ht : P.underlying t = some (.struct fs)) (h : Reads enc P W sp held t cs d) :
    cs.length = P.cellsOf t ∧ ∃ D : Nat → DataW H, d = .agg ((List.range fs.size).map D) ∧ ∀ (i : Nat) (f : Field), fs[i]? = some f → Reads enc P W sp held f.type ((cs.drop f.offset).take (P.cellsOf f.type)) (D i) := by
  obtain ⟨fuel, ps, h⟩ := h
  obtain ⟨xs, n, rfl, hx, hl, hxl, hf⟩ := DataW.trod_struct ht h
  refine ⟨hl, fun i => (xs[i]?.map (·.1)).getD .nil, ?_, ?_⟩
  · rw [show d = .agg (xs.map (·.1)) from congrArg Prod.fst hx]
    congr 1
    apply List.ext_getElem?
    intro i
    rw [List.getElem?_map, List.getElem?_map]
    by_cases hi : i < fs.size
    · rw [List.getElem?_range hi, List.getElem?_eq_getElem (by omega)]
      simp [List.getElem?_eq_getElem (show i < xs.length by omega)]
    · rw [List.getElem?_eq_none (by omega), List.getElem?_eq_none (by simp; omega)]
      rfl
  · intro i f hif
    have hi : i < fs.size := by
      rcases Nat.lt_or_ge i fs.size with h' | h'
      · exact h'
      · rw [Array.getElem?_eq_none h'] at hif; cases hif
    have h1 := hf i f hif
    rw [List.getElem?_eq_getElem (by omega)] at h1
    refine ⟨n, (xs[i]'(by omega)).2, ?_⟩
    rw [h1]
    simp [List.getElem?_eq_getElem (show i < xs.length by omega)]
end
theorem i64_bd {n : Int} (h : (Lit.int .i64 n).wf = true) : -9223372036854775808 ≤ n ∧ n ≤ 9223372036854775807 := by
  simp [Lit.wf, IntKind.min, IntKind.max, IntKind.signed, IntKind.bits] at h
  omega
theorem u64_bd {n : Int} (h : (Lit.int .u64 n).wf = true) : 0 ≤ n ∧ n ≤ 18446744073709551615 := by
  simp [Lit.wf, IntKind.min, IntKind.max, IntKind.signed, IntKind.bits] at h
  omega
theorem u8_bd {n : Int} (h : (Lit.int .u8 n).wf = true) : 0 ≤ n ∧ n ≤ 255 := by
  simp [Lit.wf, IntKind.min, IntKind.max, IntKind.signed, IntKind.bits] at h
  omega
end Go.Proofs.YtnneoeimgbemfaaGreat

/- DERIVED. What is known of the arguments that came in: numbers, slices of whatever elements; their weights. -/
namespace Go.Proofs.YtnneoeimgbemfaaGreat
open Go.ChangeShapes Go.WideShapes Go.ChangeAt Go.RowKit
section
variable {H : Type} {enc : TypeId × Value → H} {P : Program} {W : World}
theorem int_came {base : Nat} {t : TypeId} {k : IntKind} {v : Value} {d : DataW H} {ps : List MemPlace} (ht : P.underlying t = some (.int k)) (hval : Value.okWide P W .any base t v) (h : DataW.Trod enc P W 0 (fun _ => true) true t v d ps) :
    ∃ n, v = .int k n ∧ (Lit.int k n).wf = true := by
  obtain ⟨n, rfl⟩ := okWide_int ht hval
  obtain ⟨m, h1, _, h2⟩ := (Reads.of h).int ht
  simp [Value.cells] at h1
  subst h1
  exact ⟨_, rfl, h2⟩
theorem slice_came {base : Nat} {t e : TypeId} {v : Value} {d : DataW H} {ps : List MemPlace} (ht : P.underlying t = some (.slice e)) (hn : 0 < P.cellsOf e) (hval : Value.okWide P W .any base t v) (h : DataW.Trod enc P W 0 (fun _ => true) true t v d ps)
    (hw : (DataW.weights P t d).all (· ≤ reachBytes) = true) :
    ∃ oa len cap, v = .slice oa len cap ∧ len * P.bytesOf e ≤ 140737488351232 ∧
      ∀ i, i < len → ∃ b off cs D, oa = some ⟨b, off, none⟩ ∧ b < W.heap.size ∧ cs.length = P.cellsOf e ∧ (∀ j, j < P.cellsOf e → W.cell? ⟨b, off + i * P.cellsOf e + j, none⟩ = cs[j]?) ∧ Reads enc P W (fun _ => true) true e cs D := by
  obtain ⟨oa, len, cap, rfl⟩ := okWide_slice ht hval
  obtain ⟨oa', len', cap', D, spl, hcs, ⟨hl, hm, hc⟩, hd⟩ := (Reads.of h).slice ht hn
  simp only [Value.cells, List.cons.injEq, Value.slice.injEq, and_true] at hcs
  obtain ⟨rfl, rfl, rfl⟩ := hcs
  refine ⟨oa, len, cap, rfl, ?_, fun i hi => ?_⟩
  · rcases hd with ⟨_, h0, _⟩ | ⟨rfl, _⟩
    · subst h0; omega
    · simp only [DataW.weights, ht, List.all_cons, Bool.and_eq_true, List.length_map, List.length_range, reachBytes] at hw
      have hw1 := of_decide_eq_true hw.1
      have : len * P.bytesOf e ≤ (len + spl.length) * P.bytesOf e := Nat.mul_le_mul_right _ (by omega)
      omega
  · obtain ⟨b, off, cs, h1, h2, h3, h4, h5⟩ := hc i hi
    exact ⟨b, off, cs, D i, h1, h2, h3, h4, h5⟩
theorem weights_one {t : TypeId} {d : DataW H} (h : (DataW.weightsEach P [t] [d]).all (· ≤ reachBytes) = true) : (DataW.weights P t d).all (· ≤ reachBytes) = true := by
  simp only [DataW.weightsEach, List.all_append, Bool.and_eq_true] at h
  exact h.1
theorem weights_two {t t' : TypeId} {d d' : DataW H} (h : (DataW.weightsEach P [t, t'] [d, d']).all (· ≤ reachBytes) = true) : (DataW.weights P t d).all (· ≤ reachBytes) = true ∧ (DataW.weights P t' d').all (· ≤ reachBytes) = true := by
  simp only [DataW.weightsEach, List.all_append, Bool.and_eq_true] at h
  exact ⟨h.1, h.2.1⟩
theorem weights_three {t t' t'' : TypeId} {d d' d'' : DataW H} (h : (DataW.weightsEach P [t, t', t''] [d, d', d'']).all (· ≤ reachBytes) = true) :
    (DataW.weights P t d).all (· ≤ reachBytes) = true ∧ (DataW.weights P t' d').all (· ≤ reachBytes) = true ∧ (DataW.weights P t'' d'').all (· ≤ reachBytes) = true := by
  simp only [DataW.weightsEach, List.all_append, Bool.and_eq_true] at h
  exact ⟨h.1, h.2.1, h.2.2.1⟩
theorem weights_four {t t' t'' t3 : TypeId} {d d' d'' d3 : DataW H} (h : (DataW.weightsEach P [t, t', t'', t3] [d, d', d'', d3]).all (· ≤ reachBytes) = true) :
    (DataW.weights P t d).all (· ≤ reachBytes) = true ∧ (DataW.weights P t' d').all (· ≤ reachBytes) = true ∧ (DataW.weights P t'' d'').all (· ≤ reachBytes) = true ∧ (DataW.weights P t3 d3).all (· ≤ reachBytes) = true := by
  simp only [DataW.weightsEach, List.all_append, Bool.and_eq_true] at h
  exact ⟨h.1, h.2.1, h.2.2.1, h.2.2.2.1⟩
end
end Go.Proofs.YtnneoeimgbemfaaGreat

/- DERIVED. Words for what a call may turn in memory: outside the named blocks, and of what was there, all is as it was. -/
namespace Go.Proofs.YtnneoeimgbemfaaGreat
open Go.RowKit

/-- Outside F the world w' is as w was, of what was there. -/
structure Upd (F : Nat → Prop) (w w' : World) : Prop where
  os : w'.os = w.os
  tape : w'.tape = w.tape
  output : w'.output = w.output
  size : w.heap.size ≤ w'.heap.size
  block : ∀ k, k < w.heap.size → ¬ F k → w'.heap[k]? = w.heap[k]?

theorem Upd.refl (F : Nat → Prop) (w : World) : Upd F w w := ⟨rfl, rfl, rfl, Nat.le_refl _, fun _ _ _ => rfl⟩
theorem Upd.trans {F G H : Nat → Prop} {a b c : World} (h : Upd F a b) (k : Upd G b c) (hF : ∀ i, i < a.heap.size → F i → H i) (hG : ∀ i, i < a.heap.size → G i → H i) : Upd H a c :=
  ⟨k.os.trans h.os, k.tape.trans h.tape, k.output.trans h.output, Nat.le_trans h.size k.size, fun i hi hn =>
    (k.block i (Nat.lt_of_lt_of_le hi h.size) (fun g => hn (hG i hi g))).trans (h.block i hi (fun f => hn (hF i hi f)))⟩
theorem Upd.mono {F G : Nat → Prop} {a b : World} (h : Upd F a b) (hF : ∀ i, i < a.heap.size → F i → G i) : Upd G a b := h.trans (Upd.refl G b) hF (fun _ _ g => g)
theorem Upd.then {F : Nat → Prop} {a b c : World} (h : Upd F a b) (k : Upd F b c) : Upd F a c := h.trans k (fun _ _ x => x) (fun _ _ x => x)
theorem Upd.drewN {F : Nat → Prop} {a b : World} (h : Upd F a b) (n : Nat) : Upd F a (b.drewN n) := ⟨h.os, h.tape, h.output, h.size, h.block⟩
theorem Upd.drew {F : Nat → Prop} {a b : World} (h : Upd F a b) : Upd F a b.drew := ⟨h.os, h.tape, h.output, h.size, h.block⟩
theorem Upd.setCell {F : Nat → Prop} {a b : World} (h : Upd F a b) (p : Addr) (hp : F p.block ∨ a.heap.size ≤ p.block) (u : Value) : Upd F a (b.setCell p u) :=
  h.trans (G := fun k => k = p.block) ⟨rfl, rfl, rfl, by simp [World.setCell], fun k _ hn => Below.heap_setCell _ _ _ _ hn⟩ (fun _ _ x => x)
    (fun i hi e => by subst e; rcases hp with hp | hp; exact hp; omega)
theorem Upd.alloc {F : Nat → Prop} {a b : World} (h : Upd F a b) (o : Obj) : Upd F a (b.alloc o) :=
  h.trans (G := fun _ => False) ⟨rfl, rfl, rfl, by simp, fun k hk _ => Below.heap_alloc _ _ _ hk⟩ (fun _ _ x => x) (fun _ _ x => x.elim)
theorem Upd.below {B : Nat} {a b : World} (h : Below B a b) : Upd (fun k => B ≤ k) a b := ⟨h.os, h.tape, h.output, h.size, fun k _ hn => h.block k (by omega)⟩
theorem Upd.toBelow {F : Nat → Prop} {a b : World} (h : Upd F a b) (hF : ∀ k, k < a.heap.size → ¬ F k) : Below a.heap.size a b :=
  ⟨h.os, h.tape, h.output, h.size, fun k hk => h.block k hk (hF k hk)⟩
theorem Upd.belowOf {F : Nat → Prop} {W a b : World} (hW : Below W.heap.size W a) (h : Upd F a b) (hF : ∀ k, k < W.heap.size → ¬ F k) : Below W.heap.size W b :=
  hW.trans ⟨h.os, h.tape, h.output, h.size, fun k hk => h.block k (Nat.lt_of_lt_of_le hk hW.size) (hF k hk)⟩

theorem Upd.onto {B : Nat} {F : Nat → Prop} {W a b : World} (hW : Below B W a) (h : Upd F a b) (hB : B ≤ a.heap.size) (hF : ∀ k, k < B → ¬ F k) : Below B W b :=
  hW.trans ⟨h.os, h.tape, h.output, h.size, fun k hk => h.block k (by omega) (hF k hk)⟩

theorem below_call {B : Nat} {W a b : World} (h : Below B W a) (hB : B ≤ a.heap.size) (k : Below a.heap.size a b) : Below B W b := h.trans (k.mono hB)

theorem heap_lt {w : World} {b : Nat} {o : Obj} (h : w.heap[b]? = some o) : b < w.heap.size := by
  rcases Nat.lt_or_ge b w.heap.size with h' | h'
  · exact h'
  · rw [Array.getElem?_eq_none h'] at h; cases h

theorem Upd.keeps {F : Nat → Prop} {w w' : World} (h : Upd F w w') {b : Nat} {o : Obj} (hb : w.heap[b]? = some o) (hF : ¬ F b) : w'.heap[b]? = some o := by
  rw [h.block b (heap_lt hb) hF]; exact hb

/-- A cell of a block that is known whole. -/
theorem cell_at {w : World} {b : Nat} {c : Array Value} {t : TypeId} {z : Nat × Nat} (h : w.heap[b]? = some (.cells c t z)) (i : Nat) : w.cell? ⟨b, i, none⟩ = c[i]? := by
  simp [World.cell?, h]
theorem free_at {w : World} {b : Nat} {c : Array Value} {t : TypeId} (h : w.heap[b]? = some (.cells c t (0, 0))) (i : Nat) : w.frozen? ⟨b, i, none⟩ = false := by
  simp [World.frozen?, h]
theorem set_at {w : World} {b : Nat} {c : Array Value} {t : TypeId} {z : Nat × Nat} (h : w.heap[b]? = some (.cells c t z)) (i : Nat) (v : Value) :
    (w.setCell ⟨b, i, none⟩ v).heap[b]? = some (.cells (c.setIfInBounds i v) t z) := by
  simp [World.setCell, Array.getElem?_modify, h]
theorem alloc_at (w : World) (o : Obj) : (w.alloc o).heap[w.heap.size]? = some o := by
  show (w.heap.push o)[w.heap.size]? = _
  simp
theorem alloc_old {w : World} {b : Nat} {o p : Obj} (h : w.heap[b]? = some p) : (w.alloc o).heap[b]? = some p := by
  rw [Below.heap_alloc _ _ _ (heap_lt h)]; exact h

theorem cells_new {w : World} {l : List Value} {cs : Array Value} {t : TypeId} {z : Nat × Nat} {b : Nat} (h : w.heap[b]? = some (.cells cs t z)) (hl : cs.toList = l) :
    ∀ (j : Nat) (u : Value), l[j]? = some u → w.cell? ((⟨b, 0, none⟩ : Addr).add j) = some u := by
  intro j u hj
  have e : (⟨b, 0, none⟩ : Addr).add j = ⟨b, j, none⟩ := by
    unfold Addr.add
    split <;> simp_all
  rw [e, cell_at h]
  subst hl
  simpa using hj
theorem below_keeps {B : Nat} {w w' : World} (h : Below B w w') {b : Nat} {o : Obj} (hb : w.heap[b]? = some o) (hF : b < B) : w'.heap[b]? = some o := by
  rw [h.block b hF]
  exact hb
theorem Upd.grown {F : Nat → Prop} {a w w' : World} {row : Option Nat} (h : Upd F a w) (hg : w.grownBy w' row) (hr : ∀ k, k < a.heap.size → row = some k → F k) : Upd F a w' :=
  h.trans (G := fun k => row = some k) ⟨hg.os, hg.tape, hg.output, hg.size, fun k hk hn => hg.block k hk (fun e => hn e.symm)⟩ (fun _ _ x => x) hr

theorem fn_end {v v' : Bool} (h : v = v') : Ending.returned (.bool v) = .returned (.bool v') := by rw [h]
theorem eqN (a b : Nat) : ((a : Int) == (b : Int)) = decide (a = b) := by
  rw [Bool.eq_iff_iff, beq_iff_eq, decide_eq_true_iff]
  omega
theorem ret_i64 {k : IntKind} {a b : Int} (h : a = b) : Ending.returned (.int k a) = .returned (.int k b) := by rw [h]
theorem cell_keep {B : Nat} {w w' : World} {a o : Nat} {v : Value} (h : Below B w w') (ha : a < B) (c : w.cell? ⟨a, o, none⟩ = some v) : w'.cell? ⟨a, o, none⟩ = some v := by
  rw [h.cell ha]
  exact c
end Go.Proofs.YtnneoeimgbemfaaGreat

/- DERIVED. Rows of elements in a block that is known whole, and what copy, clear and append do to them. -/
namespace Go.Proofs.YtnneoeimgbemfaaGreat
open Go.RowKit

section
variable {α : Type} (enc : α → List Value)

def flat (l : List α) : List Value := l.flatMap enc
variable {enc}
theorem flat_nil : flat enc [] = [] := rfl
theorem flat_cons (a : α) (l : List α) : flat enc (a :: l) = enc a ++ flat enc l := rfl
theorem flat_append (l m : List α) : flat enc (l ++ m) = flat enc l ++ flat enc m := by simp [flat]
theorem flat_length {k : Nat} (h : ∀ a, (enc a).length = k) (l : List α) : (flat enc l).length = l.length * k := by
  induction l with
  | nil => simp [flat]
  | cons a l ih => rw [flat_cons, List.length_append, ih, h, List.length_cons, Nat.succ_mul]; omega
theorem flat_take {k : Nat} (h : ∀ a, (enc a).length = k) (l : List α) (n : Nat) : (flat enc l).take (n * k) = flat enc (l.take n) := by
  induction l generalizing n with
  | nil => simp [flat]
  | cons a l ih =>
    cases n with
    | zero => simp [flat]
    | succ n =>
      rw [List.take_succ_cons, flat_cons, flat_cons, Nat.succ_mul, List.take_append, h, Nat.add_sub_cancel, ih, List.take_of_length_le (by rw [h]; omega)]
theorem flat_drop {k : Nat} (h : ∀ a, (enc a).length = k) (l : List α) (n : Nat) : (flat enc l).drop (n * k) = flat enc (l.drop n) := by
  induction l generalizing n with
  | nil => simp [flat]
  | cons a l ih =>
    cases n with
    | zero => simp
    | succ n =>
      rw [List.drop_succ_cons, flat_cons, Nat.succ_mul, List.drop_append, h, Nat.add_sub_cancel, ih, List.drop_of_length_le (by rw [h]; omega), List.nil_append]
theorem flat_get {k : Nat} (h : ∀ a, (enc a).length = k) (l : List α) (i j : Nat) (hj : j < k) {a : α} (ha : l[i]? = some a) : (flat enc l)[i * k + j]? = (enc a)[j]? := by
  have h1 : (flat enc l).drop (i * k) = enc a ++ flat enc (l.drop (i + 1)) := by
    rw [flat_drop h, ← flat_cons]
    congr 1
    obtain ⟨hi, rfl⟩ := List.getElem?_eq_some_iff.1 ha
    exact List.drop_eq_getElem_cons hi
  have h2 : (flat enc l)[i * k + j]? = ((flat enc l).drop (i * k))[j]? := by rw [List.getElem?_drop]
  rw [h2, h1, List.getElem?_append_left (by rw [h]; exact hj)]
theorem splice_len {β : Type} (L : List β) (o : Nat) (cs : List β) (h : o + cs.length ≤ L.length) : (splice L o cs).length = L.length := length_splice L o cs h
theorem flat_splice {k : Nat} (h : ∀ a, (enc a).length = k) (l : List α) (o : Nat) (cs : List α) : splice (flat enc l) (o * k) (flat enc cs) = flat enc (splice l o cs) := by
  unfold splice
  rw [flat_take h, flat_length h, ← Nat.add_mul, flat_drop h, flat_append, flat_append]
theorem flat_one (h1 : ∀ a, ∀ v ∈ enc a, v.oneCell' = true) (l : List α) : ∀ v ∈ flat enc l, v.oneCell' = true := by
  intro v hv
  obtain ⟨a, _, ha⟩ := List.mem_flatMap.1 hv
  exact h1 a v ha
theorem flat_replicate_zero {k : Nat} {z : Array Value} {a : α} (h : (enc a).length = k) (hz : z.toList = enc a) (n : Nat) : (Builtin.zeroCells z n).toList = flat enc (List.replicate n a) := by
  have hzs : z.size = k := by rw [← h, ← hz]; simp
  unfold Builtin.zeroCells
  apply List.ext_getElem?
  intro i
  rw [hzs]
  simp only [Array.toList_map, Array.toList_range, List.getElem?_map]
  by_cases hi : i < n * k
  · rw [List.getElem?_range hi]
    have hk : 0 < k := Nat.pos_of_ne_zero (by rintro rfl; omega)
    have e := Nat.div_add_mod i k
    have hd : i / k < n := Nat.div_lt_of_lt_mul (by rw [Nat.mul_comm]; exact hi)
    have hm := Nat.mod_lt i hk
    have hall : ∀ m, m < n → (List.replicate n a)[m]? = some a := fun m hm => by simp [hm]
    have key : ∀ (l : List α), (∀ b ∈ l, b = a) → i / k < l.length → (flat enc l)[i / k * k + i % k]? = (enc a)[i % k]? := by
      intro l
      generalize i / k = q
      induction l generalizing q with
      | nil => intro _ hq; simp at hq
      | cons b l ih =>
        intro hb hq
        obtain rfl := hb b (by simp)
        rw [flat_cons]
        cases q with
        | zero => rw [Nat.zero_mul, Nat.zero_add, List.getElem?_append_left (by rw [h]; exact hm)]
        | succ q =>
          rw [List.getElem?_append_right (by rw [h, Nat.succ_mul]; omega), h, show (q + 1) * k + i % k - k = q * k + i % k from by rw [Nat.succ_mul]; omega]
          exact ih q (fun c hc => hb c (by simp [hc])) (by simpa using hq)
    have hkey := key (List.replicate n a) (fun b hb => List.eq_of_mem_replicate hb) (by simpa using hd)
    rw [Nat.mul_comm, e] at hkey
    rw [hkey, ← hz]
    simp only [Option.map_some, Array.getElem?_toList]
    rw [getElem!_pos z (i % k) (by omega), Array.getElem?_eq_getElem (by omega)]
  · rw [List.getElem?_eq_none (by simpa using hi), List.getElem?_eq_none (by
      have : ∀ l : List α, (∀ b ∈ l, b = a) → (flat enc l).length = l.length * k := by
        intro l hl
        induction l with
        | nil => simp [flat]
        | cons b l ih =>
          obtain rfl := hl b (by simp)
          rw [flat_cons, List.length_append, ih (fun c hc => hl c (by simp [hc])), h, List.length_cons, Nat.succ_mul]; omega
      rw [this _ (fun b hb => List.eq_of_mem_replicate hb)]
      simpa using hi)]
    rfl

/-- Block g is a row that holds these elements, spare room and all. -/
def Row (enc : α → List Value) (w : World) (E : TypeId) (g : Nat) (rs : List α) : Prop := w.heap[g]? = some (.cells (flat enc rs).toArray E (0, 0))
def setR (enc : α → List Value) (w : World) (g : Nat) (rs : List α) : World := w.setRow g (flat enc rs).toArray

theorem Row.set {w : World} {E : TypeId} {g : Nat} {rs : List α} (h : Row enc w E g rs) (ss : List α) : Row enc (setR enc w g ss) E g ss := setRow_heap w g _ _ E _ h
theorem setR_other (w : World) (g : Nat) (ss : List α) {j : Nat} (h : j ≠ g) : (setR enc w g ss).heap[j]? = w.heap[j]? := setRow_other w g j _ h
theorem setR_upd (w : World) (g : Nat) (ss : List α) : Upd (fun k => k = g) w (setR enc w g ss) := ⟨rfl, rfl, rfl, by simp [setR], fun k _ hn => setR_other w g ss hn⟩
theorem setR_size (w : World) (g : Nat) (ss : List α) : (setR enc w g ss).heap.size = w.heap.size := by simp [setR]
theorem setR_setR (w : World) (g : Nat) (a b : List α) : setR enc (setR enc w g a) g b = setR enc w g b := setRow_setRow w g _ _
theorem setR_drew (w : World) (g : Nat) (a : List α) : setR enc w.drew g a = (setR enc w g a).drew := rfl
theorem Row.self {w : World} {E : TypeId} {g : Nat} {rs : List α} (h : Row enc w E g rs) : setR enc w g rs = w := setRow_self w g _ E _ h

theorem Row.cell {w : World} {E : TypeId} {g : Nat} {rs : List α} (h : Row enc w E g rs) (j : Nat) : w.cell? ⟨g, j, none⟩ = (flat enc rs)[j]? := by
  rw [cell_at h]
  simp
theorem Row.el {w : World} {E : TypeId} {g : Nat} {rs : List α} (h : Row enc w E g rs) {k : Nat} (hk : ∀ a, (enc a).length = k) (i j : Nat) (hj : j < k) {a : α} (ha : rs[i]? = some a) : w.cell? ⟨g, i * k + j, none⟩ = (enc a)[j]? := by
  rw [h.cell, flat_get hk rs i j hj ha]
theorem Row.free {w : World} {E : TypeId} {g : Nat} {rs : List α} (h : Row enc w E g rs) (j : Nat) : w.frozen? ⟨g, j, none⟩ = false := free_at h j

theorem add_lit' (b o j : Nat) : (⟨b, o, none⟩ : Addr).add j = ⟨b, o + j, none⟩ := by
  unfold Addr.add
  split <;> simp_all
/-- The cells of some elements from place q on. -/
theorem Row.src {w : World} {E : TypeId} {g : Nat} {rs : List α} (h : Row enc w E g rs) {k : Nat} (hk : ∀ a, (enc a).length = k) (q n : Nat) (hq : q + n ≤ rs.length) :
    ∀ j v, (flat enc ((rs.drop q).take n))[j]? = some v → w.cell? ((⟨g, q * k, none⟩ : Addr).add j) = some v := by
  intro j v hv
  rw [add_lit', h.cell, ← hv, ← flat_take hk, ← flat_drop hk]
  have hj : j < n * k := by
    rcases Nat.lt_or_ge j (n * k) with h' | h'
    · exact h'
    · rw [List.getElem?_eq_none (by rw [flat_length hk, List.length_take, List.length_drop, Nat.min_eq_left (by omega)]; exact h')] at hv
      cases hv
  rw [List.getElem?_take_of_lt hj, List.getElem?_drop]

section
variable {P : Program} (w : World) {k : Nat} {e dT : TypeId} {i : TypeInfo}

theorem run_store_row (hk : ∀ a, (enc a).length = k) (h1 : ∀ a, ∀ v ∈ enc a, v.oneCell' = true) {E : TypeId} {g : Nat} {rs : List α} (h : Row enc w E g rs) (o : Nat) (cs : List α) (hfit : o + cs.length ≤ rs.length) :
    (storeCells ⟨g, o * k, none⟩ (flat enc cs)).run P w = .ok () (setR enc w g (splice rs o cs)) := by
  have hl : (flat enc rs).toArray.size = rs.length * k := by simp [flat_length hk]
  have := run_storeCells_at (P := P) g (o * k) E (flat enc cs) 0 _ w h (by
    rw [hl, flat_length hk]
    have := Nat.mul_le_mul_right k hfit
    rw [Nat.add_mul] at this
    omega) (flat_one h1 cs)
  rw [this]
  unfold setR
  rw [← flat_splice hk]
  simp only [splice, Nat.add_zero, List.append_assoc]

/-- copy(d, s) of at least one element. -/
theorem run_copy_row (hk : ∀ a, (enc a).length = k) (h1 : ∀ a, ∀ v ∈ enc a, v.oneCell' = true) (hu : P.underlying dT = some (.slice e)) (hi : P.info? e = some i) (hz : i.size = k) (sT ty : TypeId)
    {E : TypeId} {g : Nat} {rs : List α} (h : Row enc w E g rs) {h' : Nat} {ss : List α} {E' : TypeId} (hs : Row enc w E' h' ss) (o q dLen dCap sLen sCap n : Nat) (hn : Nat.min sLen dLen = n) (hfit : o + n ≤ rs.length) (hq : q + n ≤ ss.length) :
    (Builtin.copy_ #[dT, sT] ty #[.slice (some ⟨g, o * k, none⟩) dLen dCap, .slice (some ⟨h', q * k, none⟩) sLen sCap]).run P w = .ok (goInt n) (setR enc w g (splice rs o ((ss.drop q).take n))) := by
  have hcl : ((ss.drop q).take n).length = n := by rw [List.length_take, List.length_drop]; omega
  have hf := run_firstCells_some (P := P) w k n ⟨h', q * k, none⟩ sLen sCap (flat enc ((ss.drop q).take n)) (by rw [flat_length hk, hcl]) (hs.src hk q n hq)
  have hst := run_store_row (P := P) w hk h1 h o ((ss.drop q).take n) (by rw [hcl]; exact hfit)
  simp [Builtin.copy_, run_underlying hu, sizeOf, typeInfo, hi, hz, Builtin.lenOf, hn, hf, hst]

/-- copy(d, s) of nothing. -/
theorem run_copy_none (hu : P.underlying dT = some (.slice e)) (hi : P.info? e = some i) (sT ty : TypeId) (db sb : Option Addr) (dLen dCap sLen sCap : Nat) (hn : Nat.min sLen dLen = 0) :
    (Builtin.copy_ #[dT, sT] ty #[.slice db dLen dCap, .slice sb sLen sCap]).run P w = .ok (goInt 0) w := by
  have hl : ∀ a : Addr, (loadCells a 0).run P w = .ok #[] w := fun a => by simp [loadCells, loadCellsFrom]
  cases db <;> cases sb <;> simp [Builtin.copy_, run_underlying hu, sizeOf, typeInfo, hi, Builtin.lenOf, hn, Builtin.firstCells, storeCells, hl]

/-- clear(s). -/
theorem run_clear_row (hk : ∀ a, (enc a).length = k) (h1 : ∀ a, ∀ v ∈ enc a, v.oneCell' = true) (hu : P.underlying dT = some (.slice e)) (hi : P.info? e = some i) {z : Value} (hz : i.zero = some z) {a0 : α} (ha0 : z.cells.toList = enc a0) (ty : TypeId)
    {E : TypeId} {g : Nat} {rs : List α} (h : Row enc w E g rs) (o n c : Nat) (hfit : o + n ≤ rs.length) :
    (Builtin.clear_ #[dT] ty #[.slice (some ⟨g, o * k, none⟩) n c]).run P w = .ok (.tuple #[]) (setR enc w g (splice rs o (List.replicate n a0))) := by
  have hst := run_store_row (P := P) w hk h1 h o (List.replicate n a0) (by simpa using hfit)
  have hzc := flat_replicate_zero (hk a0) ha0 n
  cases n with
  | zero =>
    simp only [List.replicate_zero, splice, List.nil_append, List.length_nil, Nat.add_zero, List.take_append_drop]
    rw [h.self]
    simp [Builtin.clear_, run_underlying hu]
  | succ n => simp [Builtin.clear_, run_underlying hu, zeroValue, typeInfo, hi, hz, hzc, hst]
theorem run_clear_none (hu : P.underlying dT = some (.slice e)) (ty : TypeId) (db : Option Addr) (c : Nat) : (Builtin.clear_ #[dT] ty #[.slice db 0 c]).run P w = .ok (.tuple #[]) w := by
  cases db <;> simp [Builtin.clear_, run_underlying hu]

/-- append(s, x...) where there is room. -/
theorem run_append_row (hk : ∀ a, (enc a).length = k) (h1 : ∀ a, ∀ v ∈ enc a, v.oneCell' = true) (hu : P.underlying dT = some (.slice e)) (hi : P.info? e = some i) (hz : i.size = k) (ty : TypeId)
    {E : TypeId} {g : Nat} {rs : List α} (h : Row enc w E g rs) {h' : Nat} {ss : List α} {E' : TypeId} (hs : Row enc w E' h' ss) (o q sLen sCap m c : Nat) (hroom : sLen + m ≤ sCap) (hfit : o + sLen + m ≤ rs.length) (hq : q + m ≤ ss.length) :
    (Builtin.append_ #[dT, dT] ty #[.slice (some ⟨g, o * k, none⟩) sLen sCap, .slice (some ⟨h', q * k, none⟩) m c]).run P w =
      .ok (.slice (some ⟨g, o * k, none⟩) (sLen + m) sCap) (setR enc w g (splice rs (o + sLen) ((ss.drop q).take m))) := by
  have hcl : ((ss.drop q).take m).length = m := by rw [List.length_take, List.length_drop]; omega
  have hf := run_firstCells_some (P := P) w k m ⟨h', q * k, none⟩ m c (flat enc ((ss.drop q).take m)) (by rw [flat_length hk, hcl]) (hs.src hk q m hq)
  have hst := run_store_row (P := P) w hk h1 h (o + sLen) ((ss.drop q).take m) (by rw [hcl]; exact hfit)
  have ha : (⟨g, o * k, none⟩ : Addr).add (sLen * k) = ⟨g, (o + sLen) * k, none⟩ := by rw [add_lit', Nat.add_mul]
  simp [Builtin.append_, run_underlying hu, sizeOf, typeInfo, hi, hz, Builtin.lenOf, hroom, hf, ha, hst]

/-- append(s, x...) where there is none. -/
theorem run_append_new (hk : ∀ a, (enc a).length = k) (hu : P.underlying dT = some (.slice e)) (hi : P.info? e = some i) (hz : i.size = k) {z : Value} (hzz : i.zero = some z) {a0 : α} (ha0 : z.cells.toList = enc a0) (ty : TypeId)
    {E : TypeId} {g : Nat} {rs : List α} (h : Row enc w E g rs) {h' : Nat} {ss : List α} {E' : TypeId} (hs : Row enc w E' h' ss) (o q sLen sCap m c : Nat) (hroom : sCap < sLen + m) (hfit : o + sLen ≤ rs.length) (hq : q + m ≤ ss.length)
    (hc : sLen ≤ sCap) (h63 : sLen + m ≤ 9223372036854775807) (hbytes : (sLen + m) * i.bytes ≤ 140737488355328) :
    ∃ cap, sLen + m ≤ cap ∧ cap ≤ 9223372036854775807 ∧ (Builtin.append_ #[dT, dT] ty #[.slice (some ⟨g, o * k, none⟩) sLen sCap, .slice (some ⟨h', q * k, none⟩) m c]).run P w =
      .ok (.slice (some ⟨w.heap.size, 0, none⟩) (sLen + m) cap) (w.drew.alloc (.cells (flat enc ((rs.drop o).take sLen ++ (ss.drop q).take m ++ List.replicate (cap - (sLen + m)) a0)).toArray e)) := by
  have hr := run_append_grow (P := P) w dT ty e i z hu hi hzz ⟨g, o * k, none⟩ sLen sCap (flat enc ((rs.drop o).take sLen)) (by rw [flat_length hk, hz, List.length_take, List.length_drop, Nat.min_eq_left (by omega)])
    (h.src hk o sLen hfit) ⟨h', q * k, none⟩ m c (flat enc ((ss.drop q).take m)) (by rw [flat_length hk, hz, List.length_take, List.length_drop, Nat.min_eq_left (by omega)]) (hs.src hk q m hq) hroom (by omega)
    (growslice_fits (by omega) hbytes)
  refine ⟨grownCap w (sLen + m) sCap e, grownCap_ge _ _ _ _, grownCap_le_maxLen _ _ _ _ (by unfold maxLen; omega), ?_⟩
  rw [hr]
  congr 3
  rw [flat_append, flat_append, ← flat_replicate_zero (hk a0) ha0]
  simp

/-- append(nil, x...). -/
theorem run_append_onto_nil (hk : ∀ a, (enc a).length = k) (hu : P.underlying dT = some (.slice e)) (hi : P.info? e = some i) (hz : i.size = k) {z : Value} (hzz : i.zero = some z) {a0 : α} (ha0 : z.cells.toList = enc a0) (ty : TypeId)
    {h' : Nat} {ss : List α} {E' : TypeId} (hs : Row enc w E' h' ss) (q m c : Nat) (hm : 0 < m) (hq : q + m ≤ ss.length) (h63 : m ≤ 9223372036854775807) (hbytes : m * i.bytes ≤ 140737488355328) :
    ∃ cap, m ≤ cap ∧ cap ≤ 9223372036854775807 ∧ (Builtin.append_ #[dT, dT] ty #[.slice none 0 0, .slice (some ⟨h', q * k, none⟩) m c]).run P w =
      .ok (.slice (some ⟨w.heap.size, 0, none⟩) m cap) (w.drew.alloc (.cells (flat enc ((ss.drop q).take m ++ List.replicate (cap - m) a0)).toArray e)) := by
  have hr := run_append_nil (P := P) w dT ty e i z hu hi hzz ⟨h', q * k, none⟩ m c (flat enc ((ss.drop q).take m)) (by rw [flat_length hk, hz, List.length_take, List.length_drop, Nat.min_eq_left (by omega)]) (hs.src hk q m hq) hm (by omega) (by omega)
  refine ⟨grownCap w m 0 e, grownCap_ge _ _ _ _, grownCap_le_maxLen _ _ _ _ (by unfold maxLen; omega), ?_⟩
  rw [hr]
  congr 3
  rw [flat_append, ← flat_replicate_zero (hk a0) ha0]
  simp

/-- append(s, make([]T, m)...) where there is no room. -/
theorem run_append_zeros_new (hk : ∀ a, (enc a).length = k) (hk0 : 0 < k) (hu : P.underlying dT = some (.slice e)) {nT : TypeId} {kn : IntKind} (hn : P.underlying nT = some (.int kn)) (hi : P.info? e = some i) (hz : i.size = k) {z : Value} (hzz : i.zero = some z) {a0 : α} (ha0 : z.cells.toList = enc a0) (ty : TypeId)
    {E : TypeId} {g : Nat} {rs : List α} (h : Row enc w E g rs) (o sLen sCap m : Nat) (kn' : IntKind) (hroom : sCap < sLen + m) (hfit : o + sLen ≤ rs.length) (hm : 0 < m)
    (hc : sLen ≤ sCap) (h63 : sLen + m ≤ 9223372036854775807) (hbytes : (sLen + m) * i.bytes ≤ 140737488355328) :
    ∃ cap, sLen + m ≤ cap ∧ cap ≤ 9223372036854775807 ∧ (Builtin.append_ #[dT, nT] ty #[.slice (some ⟨g, o * k, none⟩) sLen sCap, .int kn' m]).run P w =
      .ok (.slice (some ⟨w.heap.size, 0, none⟩) (sLen + m) cap) (w.drew.alloc (.cells (flat enc ((rs.drop o).take sLen ++ List.replicate m a0 ++ List.replicate (cap - (sLen + m)) a0)).toArray e)) := by
  refine ⟨grownCap w (sLen + m) sCap e, grownCap_ge _ _ _ _, grownCap_le_maxLen _ _ _ _ (by unfold maxLen; omega), ?_⟩
  have hn' : ¬ (sLen + m ≤ sCap) := by omega
  have hw : IntKind.i64.wrap (m : Int) = m := by rw [IntKind.wrap_i64]; omega
  have h63' : ¬ (9223372036854775807 < ((sLen : Int) + max (m : Int) 0)) := by omega
  have h63'' : ¬ (9223372036854775807 < ((sLen : Int) + (m : Int))) := by omega
  have hfit2 : Builtin.nextslicecap (sLen + m) sCap * i.bytes ≤ 281474976710656 := growslice_fits (by omega) hbytes
  have h48' : ¬ (281474976710656 < Builtin.nextslicecap (sLen + m) sCap * i.bytes) := by omega
  have h48i : ¬ (281474976710656 < (m : Int) * (i.bytes : Int)) := by
    rw [← Int.natCast_mul]
    have : m * i.bytes ≤ (sLen + m) * i.bytes := Nat.mul_le_mul_right _ (by omega)
    omega
  have hneg : ¬ ((m : Int) < 0) := by omega
  have hns : ¬ (m * k = 0) := Nat.mul_ne_zero (by omega) (by omega)
  have hfo := run_firstCells_some (P := P) w.drew k sLen ⟨g, o * k, none⟩ sLen sCap (flat enc ((rs.drop o).take sLen)) (by rw [flat_length hk, List.length_take, List.length_drop, Nat.min_eq_left (by omega)])
    (by simpa using h.src hk o sLen hfit)
  have e1 : (flat enc ((rs.drop o).take sLen ++ List.replicate m a0 ++ List.replicate (grownCap w (sLen + m) sCap e - (sLen + m)) a0)).toArray =
      (flat enc ((rs.drop o).take sLen)).toArray ++ Builtin.zeroCells z.cells m ++ Builtin.zeroCells z.cells (grownCap w (sLen + m) sCap e - (sLen + m)) := by
    rw [flat_append, flat_append, ← flat_replicate_zero (hk a0) ha0, ← flat_replicate_zero (hk a0) ha0]
    simp
  rw [e1]
  simp [Builtin.append_, run_underlying hu, run_underlying hn, sizeOf, typeInfo, zeroValue, hi, hz, hzz, asInt, asIntOf, hw, hn', hneg, hns, h63'', h48', h48i, Question.forced, hfo, newRow, grownCap]
end
end

section
variable {P : Program} (w : World)
theorem wp_copy_run {o : Oper} {a : Act} {K : Act → World → Prop} {Q : Exit → Act → World → Prop} (d s : Operand) (t t' : TypeId)
    (ho : o.op = .call { callee := .builtin .copy, args := #[d, s], argTypes := #[t, t'] }) (v u : Value) (hd : a.eval d = v) (hs : a.eval s = u) {v' : Value} {w' : World}
    (hr : (Builtin.copy_ #[t, t'] o.type #[v, u]).run P w = .ok v' w') (h : K (a.put o.dst v') w') : o.wp P a w K Q := by
  unfold Oper.wp execOp
  simp only [ho, resolve, invoke, builtin, Sem.run_bind, Sem.run_pure, Result.andThen_ok, List.map_toArray, List.map_cons, List.map_nil, hd, hs, hr]
  exact h
theorem wpList_copy_run {ops : Array Oper} {rest : List Oper} {o : Oper} {a : Act} {Q : Exit → Act → World → Prop} (hgd : o.guard = none) (d s : Operand) (t t' : TypeId)
    (ho : o.op = .call { callee := .builtin .copy, args := #[d, s], argTypes := #[t, t'] }) (v u : Value) (hd : a.eval d = v) (hs : a.eval s = u) {v' : Value} {w' : World}
    (hr : (Builtin.copy_ #[t, t'] o.type #[v, u]).run P w = .ok v' w') (h : wpList P ops Q rest (a.put o.dst v') w') : wpList P ops Q (o :: rest) a w :=
  wpList_plain hgd fun _ hK => wp_copy_run w d s t t' ho v u hd hs hr (hK _ _ h)
theorem step_copy_run {ops : Array Oper} {o : Oper} {a : Act} {K : Act → World → Prop} {Q : Exit → Act → World → Prop} {E : Prop}
    (hg : o.guard = none) (d x : Operand) (t t' : TypeId) (hop : o.op = Op.call { callee := Callee.builtin Builtin.copy, args := #[d, x], argTypes := #[t, t'] })
    (v u : Value) (hd : a.eval d = v) (hx : a.eval x = u) {v' : Value} {w' : World} (hr : (Builtin.copy_ #[t, t'] o.type #[v, u]).run P w = .ok v' w') (hK : K (a.put o.dst v') w') :
    if Region.wanted o (yielded ops a.tmps) = true then Oper.wp P o a w K Q else E := by
  have hw : Region.wanted o (yielded ops a.tmps) = true := by simp [Region.wanted, hg]
  rw [if_pos hw]
  exact wp_copy_run w d x t t' hop v u hd hx hr hK
theorem step_append_run {ops : Array Oper} {o : Oper} {a : Act} {K : Act → World → Prop} {Q : Exit → Act → World → Prop} {E : Prop}
    (hg : o.guard = none) (d x : Operand) (t t' : TypeId) (hop : o.op = Op.call { callee := Callee.builtin Builtin.append, args := #[d, x], argTypes := #[t, t'] })
    (v u : Value) (hd : a.eval d = v) (hx : a.eval x = u) {v' : Value} {w' : World} (hr : (Builtin.append_ #[t, t'] o.type #[v, u]).run P w = .ok v' w') (hK : K (a.put o.dst v') w') :
    if Region.wanted o (yielded ops a.tmps) = true then Oper.wp P o a w K Q else E := by
  have hw : Region.wanted o (yielded ops a.tmps) = true := by simp [Region.wanted, hg]
  rw [if_pos hw]
  exact Lib.wp_append_run w d x t t' hop v u hd hx v' w' hr hK
theorem wp_clear_run {o : Oper} {a : Act} {K : Act → World → Prop} {Q : Exit → Act → World → Prop} (d : Operand) (t : TypeId)
    (ho : o.op = .call { callee := .builtin .clear, args := #[d], argTypes := #[t] }) (v : Value) (hd : a.eval d = v) {v' : Value} {w' : World}
    (hr : (Builtin.clear_ #[t] o.type #[v]).run P w = .ok v' w') (h : K (a.put o.dst v') w') : o.wp P a w K Q := by
  unfold Oper.wp execOp
  simp only [ho, resolve, invoke, builtin, Sem.run_bind, Sem.run_pure, Result.andThen_ok, List.map_toArray, List.map_cons, List.map_nil, hd, hr]
  exact h
theorem wpList_clear_run {ops : Array Oper} {rest : List Oper} {o : Oper} {a : Act} {Q : Exit → Act → World → Prop} (hgd : o.guard = none) (d : Operand) (t : TypeId)
    (ho : o.op = .call { callee := .builtin .clear, args := #[d], argTypes := #[t] }) (v : Value) (hd : a.eval d = v) {v' : Value} {w' : World}
    (hr : (Builtin.clear_ #[t] o.type #[v]).run P w = .ok v' w') (h : wpList P ops Q rest (a.put o.dst v') w') : wpList P ops Q (o :: rest) a w :=
  wpList_plain hgd fun _ hK => wp_clear_run w d t ho v hd hr (hK _ _ h)
end

section
variable {α : Type} {enc : α → List Value} {P : Program} {w : World} {k : Nat} {e dT : TypeId} {i : TypeInfo}
theorem splice_take_lt {β : Type} {L c : List β} {o m : Nat} (hm : m ≤ o) (ho : o ≤ L.length) : (splice L o c).take m = L.take m := by
  unfold splice
  rw [List.take_append_of_le_length (by rw [List.length_take]; omega), List.take_take, Nat.min_eq_left hm]
theorem splice_take_end {β : Type} {L c : List β} {o : Nat} (ho : o ≤ L.length) : (splice L o c).take (o + c.length) = L.take o ++ c := by
  unfold splice
  have e : (L.take o ++ c).length = o + c.length := by simp; omega
  rw [← List.append_assoc, ← e, List.take_left]
theorem splice_drop_ge {β : Type} {L c : List β} {o m : Nat} (hf : o + c.length ≤ L.length) (hm : o + c.length ≤ m) : (splice L o c).drop m = L.drop m := by
  unfold splice
  have e : (L.take o ++ c).length = o + c.length := by simp; omega
  rw [← List.append_assoc, List.drop_append, e, List.drop_drop, List.drop_of_length_le (by omega), List.nil_append]
  congr 1
  omega
theorem wpList_clear_zero {P : Program} {w : World} {e dT : TypeId} (hu : P.underlying dT = some (.slice e)) {ops : Array Oper} {rest : List Oper} {o : Oper} {a : Act} {Q : Exit → Act → World → Prop} (hgd : o.guard = none) (d : Operand)
    (ho : o.op = .call { callee := .builtin .clear, args := #[d], argTypes := #[dT] }) {db : Option Addr} {n dCap : Nat} (hd : a.eval d = .slice db n dCap) (hn : n = 0)
    (hK : wpList P ops Q rest (a.put o.dst (.tuple #[])) w) : wpList P ops Q (o :: rest) a w := by
  subst hn
  exact wpList_clear_run w hgd d dT ho _ hd (run_clear_none w hu _ db dCap) hK
theorem min_of {n sLen dLen : Nat} (hn : (n ≤ sLen ∧ n ≤ dLen) ∧ (sLen = n ∨ dLen = n)) : Nat.min sLen dLen = n := by
  show min sLen dLen = n
  omega
/-- The operation 'copy(d, s)', the worlds behind it by what is known of them. -/
theorem wpList_copy_at (hk : ∀ a, (enc a).length = k) (h1 : ∀ a, ∀ v ∈ enc a, v.oneCell' = true) (hu : P.underlying dT = some (.slice e)) (hi : P.info? e = some i) (hz : i.size = k)
    {ops : Array Oper} {rest : List Oper} {o : Oper} {a : Act} {Q : Exit → Act → World → Prop} (hgd : o.guard = none) (d s : Operand) (t' : TypeId)
    (ho : o.op = .call { callee := .builtin .copy, args := #[d, s], argTypes := #[dT, t'] }) {E : TypeId} {g : Nat} {rs : List α} (h : Row enc w E g rs) {h' : Nat} {ss : List α} {E' : TypeId} (hs : Row enc w E' h' ss)
    (po q n : Nat) {off soff dLen dCap sLen sCap : Nat} (hd : a.eval d = .slice (some ⟨g, off, none⟩) dLen dCap) (hsv : a.eval s = .slice (some ⟨h', soff, none⟩) sLen sCap) (hoff : off = po * k) (hsoff : soff = q * k)
    (hn : (n ≤ sLen ∧ n ≤ dLen) ∧ (sLen = n ∨ dLen = n)) (hfit : po + n ≤ rs.length) (hq : q + n ≤ ss.length)
    (hK : ∀ W, Row enc W E g (splice rs po ((ss.drop q).take n)) → Upd (fun j => j = g) w W → wpList P ops Q rest (a.put o.dst (goInt n)) W) : wpList P ops Q (o :: rest) a w := by
  subst hoff hsoff
  exact wpList_copy_run w hgd d s dT t' ho _ _ hd hsv (run_copy_row w hk h1 hu hi hz t' _ h hs po q dLen dCap sLen sCap n (min_of hn) hfit hq) (hK _ (h.set _) (setR_upd w g _))
theorem step_copy_at (hk : ∀ a, (enc a).length = k) (h1 : ∀ a, ∀ v ∈ enc a, v.oneCell' = true) (hu : P.underlying dT = some (.slice e)) (hi : P.info? e = some i) (hz : i.size = k)
    {ops : Array Oper} {o : Oper} {a : Act} {K : Act → World → Prop} {Q : Exit → Act → World → Prop} {F : Prop} (hgd : o.guard = none) (d s : Operand) (t' : TypeId)
    (ho : o.op = .call { callee := .builtin .copy, args := #[d, s], argTypes := #[dT, t'] }) {E : TypeId} {g : Nat} {rs : List α} (h : Row enc w E g rs) {h' : Nat} {ss : List α} {E' : TypeId} (hs : Row enc w E' h' ss)
    (po q n : Nat) {off soff dLen dCap sLen sCap : Nat} (hd : a.eval d = .slice (some ⟨g, off, none⟩) dLen dCap) (hsv : a.eval s = .slice (some ⟨h', soff, none⟩) sLen sCap) (hoff : off = po * k) (hsoff : soff = q * k)
    (hn : (n ≤ sLen ∧ n ≤ dLen) ∧ (sLen = n ∨ dLen = n)) (hfit : po + n ≤ rs.length) (hq : q + n ≤ ss.length)
    (hK : ∀ W, Row enc W E g (splice rs po ((ss.drop q).take n)) → Upd (fun j => j = g) w W → K (a.put o.dst (goInt n)) W) : if Region.wanted o (yielded ops a.tmps) = true then Oper.wp P o a w K Q else F := by
  subst hoff hsoff
  exact step_copy_run w hgd d s dT t' ho _ _ hd hsv (run_copy_row w hk h1 hu hi hz t' _ h hs po q dLen dCap sLen sCap n (min_of hn) hfit hq) (hK _ (h.set _) (setR_upd w g _))
theorem wpList_clear_at (hk : ∀ a, (enc a).length = k) (h1 : ∀ a, ∀ v ∈ enc a, v.oneCell' = true) (hu : P.underlying dT = some (.slice e)) (hi : P.info? e = some i) {z : Value} (hz : i.zero = some z) {a0 : α} (ha0 : z.cells.toList = enc a0)
    {ops : Array Oper} {rest : List Oper} {o : Oper} {a : Act} {Q : Exit → Act → World → Prop} (hgd : o.guard = none) (d : Operand)
    (ho : o.op = .call { callee := .builtin .clear, args := #[d], argTypes := #[dT] }) {E : TypeId} {g : Nat} {rs : List α} (h : Row enc w E g rs)
    (po n : Nat) {off dCap : Nat} (hd : a.eval d = .slice (some ⟨g, off, none⟩) n dCap) (hoff : off = po * k) (hfit : po + n ≤ rs.length)
    (hK : ∀ W, Row enc W E g (splice rs po (List.replicate n a0)) → Upd (fun j => j = g) w W → wpList P ops Q rest (a.put o.dst (.tuple #[])) W) : wpList P ops Q (o :: rest) a w := by
  subst hoff
  exact wpList_clear_run w hgd d dT ho _ hd (run_clear_row w hk h1 hu hi hz ha0 _ h po n dCap hfit) (hK _ (h.set _) (setR_upd w g _))
theorem wpList_append_at (hk : ∀ a, (enc a).length = k) (h1 : ∀ a, ∀ v ∈ enc a, v.oneCell' = true) (hu : P.underlying dT = some (.slice e)) (hi : P.info? e = some i) (hz : i.size = k)
    {ops : Array Oper} {rest : List Oper} {o : Oper} {a : Act} {Q : Exit → Act → World → Prop} (hgd : o.guard = none) (d s : Operand)
    (ho : o.op = .call { callee := .builtin .append, args := #[d, s], argTypes := #[dT, dT] }) {E : TypeId} {g : Nat} {rs : List α} (h : Row enc w E g rs) {h' : Nat} {ss : List α} {E' : TypeId} (hs : Row enc w E' h' ss)
    (po q : Nat) {off soff sLen sCap m c : Nat} (hd : a.eval d = .slice (some ⟨g, off, none⟩) sLen sCap) (hsv : a.eval s = .slice (some ⟨h', soff, none⟩) m c) (hoff : off = po * k) (hsoff : soff = q * k)
    (hroom : sLen + m ≤ sCap) (hfit : po + sLen + m ≤ rs.length) (hq : q + m ≤ ss.length)
    (hK : ∀ W, Row enc W E g (splice rs (po + sLen) ((ss.drop q).take m)) → Upd (fun j => j = g) w W → wpList P ops Q rest (a.put o.dst (.slice (some ⟨g, off, none⟩) (sLen + m) sCap)) W) : wpList P ops Q (o :: rest) a w := by
  subst hoff hsoff
  exact Lib.wpList_append_run w hgd d s dT dT ho _ _ hd hsv _ _ (run_append_row w hk h1 hu hi hz _ h hs po q sLen sCap m c hroom hfit hq) (hK _ (h.set _) (setR_upd w g _))
theorem step_append_at (hk : ∀ a, (enc a).length = k) (h1 : ∀ a, ∀ v ∈ enc a, v.oneCell' = true) (hu : P.underlying dT = some (.slice e)) (hi : P.info? e = some i) (hz : i.size = k)
    {ops : Array Oper} {o : Oper} {a : Act} {K : Act → World → Prop} {Q : Exit → Act → World → Prop} {F : Prop} (hgd : o.guard = none) (d s : Operand)
    (ho : o.op = .call { callee := .builtin .append, args := #[d, s], argTypes := #[dT, dT] }) {E : TypeId} {g : Nat} {rs : List α} (h : Row enc w E g rs) {h' : Nat} {ss : List α} {E' : TypeId} (hs : Row enc w E' h' ss)
    (po q : Nat) {off soff sLen sCap m c : Nat} (hd : a.eval d = .slice (some ⟨g, off, none⟩) sLen sCap) (hsv : a.eval s = .slice (some ⟨h', soff, none⟩) m c) (hoff : off = po * k) (hsoff : soff = q * k)
    (hroom : sLen + m ≤ sCap) (hfit : po + sLen + m ≤ rs.length) (hq : q + m ≤ ss.length)
    (hK : ∀ W, Row enc W E g (splice rs (po + sLen) ((ss.drop q).take m)) → Upd (fun j => j = g) w W → K (a.put o.dst (.slice (some ⟨g, off, none⟩) (sLen + m) sCap)) W) : if Region.wanted o (yielded ops a.tmps) = true then Oper.wp P o a w K Q else F := by
  subst hoff hsoff
  exact step_append_run w hgd d s dT dT ho _ _ hd hsv (run_append_row w hk h1 hu hi hz _ h hs po q sLen sCap m c hroom hfit hq) (hK _ (h.set _) (setR_upd w g _))
/-- append where a new row is made: one draw, one new block. -/
theorem wpList_append_fresh (hk : ∀ a, (enc a).length = k) (hu : P.underlying dT = some (.slice e)) (hi : P.info? e = some i) (hz : i.size = k) {z : Value} (hzz : i.zero = some z) {a0 : α} (ha0 : z.cells.toList = enc a0)
    {ops : Array Oper} {rest : List Oper} {o : Oper} {a : Act} {Q : Exit → Act → World → Prop} (hgd : o.guard = none) (d s : Operand)
    (ho : o.op = .call { callee := .builtin .append, args := #[d, s], argTypes := #[dT, dT] }) {E : TypeId} {g : Nat} {rs : List α} (h : Row enc w E g rs) {h' : Nat} {ss : List α} {E' : TypeId} (hs : Row enc w E' h' ss)
    (po q : Nat) {off soff sLen sCap m c : Nat} (hd : a.eval d = .slice (some ⟨g, off, none⟩) sLen sCap) (hsv : a.eval s = .slice (some ⟨h', soff, none⟩) m c) (hoff : off = po * k) (hsoff : soff = q * k)
    (hroom : sCap < sLen + m) (hfit : po + sLen ≤ rs.length) (hq : q + m ≤ ss.length) (hc : sLen ≤ sCap) (h63 : sLen + m ≤ 9223372036854775807) (hbytes : (sLen + m) * i.bytes ≤ 140737488355328)
    (hK : ∀ W cap, Row enc W e w.heap.size ((rs.drop po).take sLen ++ (ss.drop q).take m ++ List.replicate (cap - (sLen + m)) a0) → sLen + m ≤ cap → cap ≤ 9223372036854775807 → Below w.heap.size w W → W.heap.size = w.heap.size + 1 →
      wpList P ops Q rest (a.put o.dst (.slice (some ⟨w.heap.size, 0, none⟩) (sLen + m) cap)) W) : wpList P ops Q (o :: rest) a w := by
  subst hoff hsoff
  obtain ⟨cap, h2, h3, hr⟩ := run_append_new w hk hu hi hz hzz ha0 o.type h hs po q sLen sCap m c hroom hfit hq hc h63 hbytes
  exact Lib.wpList_append_run w hgd d s dT dT ho _ _ hd hsv _ _ hr (hK _ cap (alloc_at w.drew _) h2 h3 ((Below.refl _ _).drew.alloc (Nat.le_refl _) _) (by simp))
theorem wpList_append_nil (hk : ∀ a, (enc a).length = k) (hu : P.underlying dT = some (.slice e)) (hi : P.info? e = some i) (hz : i.size = k) {z : Value} (hzz : i.zero = some z) {a0 : α} (ha0 : z.cells.toList = enc a0)
    {ops : Array Oper} {rest : List Oper} {o : Oper} {a : Act} {Q : Exit → Act → World → Prop} (hgd : o.guard = none) (d s : Operand)
    (ho : o.op = .call { callee := .builtin .append, args := #[d, s], argTypes := #[dT, dT] }) {h' : Nat} {ss : List α} {E' : TypeId} (hs : Row enc w E' h' ss)
    (q : Nat) {soff m c : Nat} (hd : a.eval d = .slice none 0 0) (hsv : a.eval s = .slice (some ⟨h', soff, none⟩) m c) (hsoff : soff = q * k)
    (hm : 0 < m) (hq : q + m ≤ ss.length) (h63 : m ≤ 9223372036854775807) (hbytes : m * i.bytes ≤ 140737488355328)
    (hK : ∀ W cap, Row enc W e w.heap.size ((ss.drop q).take m ++ List.replicate (cap - m) a0) → m ≤ cap → cap ≤ 9223372036854775807 → Below w.heap.size w W → W.heap.size = w.heap.size + 1 →
      wpList P ops Q rest (a.put o.dst (.slice (some ⟨w.heap.size, 0, none⟩) m cap)) W) : wpList P ops Q (o :: rest) a w := by
  subst hsoff
  obtain ⟨cap, h2, h3, hr⟩ := run_append_onto_nil w hk hu hi hz hzz ha0 o.type hs q m c hm hq h63 hbytes
  exact Lib.wpList_append_run w hgd d s dT dT ho _ _ hd hsv _ _ hr (hK _ cap (alloc_at w.drew _) h2 h3 ((Below.refl _ _).drew.alloc (Nat.le_refl _) _) (by simp))
theorem wpList_append_zeros (hk : ∀ a, (enc a).length = k) (hk0 : 0 < k) (hu : P.underlying dT = some (.slice e)) {nT : TypeId} {kn : IntKind} (hnT : P.underlying nT = some (.int kn)) (hi : P.info? e = some i) (hz : i.size = k) {z : Value} (hzz : i.zero = some z) {a0 : α} (ha0 : z.cells.toList = enc a0)
    {ops : Array Oper} {rest : List Oper} {o : Oper} {a : Act} {Q : Exit → Act → World → Prop} (hgd : o.guard = none) (d s : Operand)
    (ho : o.op = .call { callee := .builtin .append, args := #[d, s], argTypes := #[dT, nT] }) {E : TypeId} {g : Nat} {rs : List α} (h : Row enc w E g rs)
    (po : Nat) {off sLen sCap m : Nat} {kn' : IntKind} {zn : Int} (hd : a.eval d = .slice (some ⟨g, off, none⟩) sLen sCap) (hsv : a.eval s = .int kn' zn) (hzn : zn = m) (hoff : off = po * k)
    (hroom : sCap < sLen + m) (hfit : po + sLen ≤ rs.length) (hm : 0 < m) (hc : sLen ≤ sCap) (h63 : sLen + m ≤ 9223372036854775807) (hbytes : (sLen + m) * i.bytes ≤ 140737488355328)
    (hK : ∀ W cap, Row enc W e w.heap.size ((rs.drop po).take sLen ++ List.replicate m a0 ++ List.replicate (cap - (sLen + m)) a0) → sLen + m ≤ cap → cap ≤ 9223372036854775807 → Below w.heap.size w W → W.heap.size = w.heap.size + 1 →
      wpList P ops Q rest (a.put o.dst (.slice (some ⟨w.heap.size, 0, none⟩) (sLen + m) cap)) W) : wpList P ops Q (o :: rest) a w := by
  subst hoff hzn
  obtain ⟨cap, h2, h3, hr⟩ := run_append_zeros_new w hk hk0 hu hnT hi hz hzz ha0 o.type h po sLen sCap m kn' hroom hfit hm hc h63 hbytes
  exact Lib.wpList_append_run w hgd d s dT nT ho _ _ hd hsv _ _ hr (hK _ cap (alloc_at w.drew _) h2 h3 ((Below.refl _ _).drew.alloc (Nat.le_refl _) _) (by simp))
end
end Go.Proofs.YtnneoeimgbemfaaGreat

/- DERIVED. Ranges in memory: rows of two numbers each; slices that lie at the head of a row. -/
namespace Go.Proofs.YtnneoeimgbemfaaGreat
open Go.RowKit

abbrev Rg : Type := Nat × Nat
def encR (r : Rg) : List Value := [.int .u64 r.1, .int .u64 r.2]
theorem encR_len (r : Rg) : (encR r).length = 2 := rfl
theorem encR_one (r : Rg) : ∀ v ∈ encR r, v.oneCell' = true := by
  intro v hv
  simp [encR] at hv
  rcases hv with rfl | rfl <;> rfl
theorem infoR : (Tryz.prog.info? 123).map (fun i => (i.zero, i.size, i.bytes)) = some (some (.agg #[.int .u64 0, .int .u64 0]), 2, 16) := by kernel_rfl
theorem zeroR : (Value.agg #[.int .u64 0, .int .u64 0]).cells.toList = encR (0, 0) := rfl

abbrev RowR (w : World) (g : Nat) (rs : List Rg) : Prop := Row encR w 123 g rs

/-- A slice value that is nil, or lies at the head of the row og, and reads as xs. -/
def Sl (w : World) (v : Value) (og : Option Nat) (xs : List Rg) : Prop :=
  (v = .slice none 0 0 ∧ xs = [] ∧ og = none) ∨
  ∃ g ys, og = some g ∧ v = .slice (some ⟨g, 0, none⟩) xs.length (xs.length + ys.length) ∧ RowR w g (xs ++ ys) ∧ xs.length + ys.length ≤ 9223372036854775807

/-- Row g begins with xs; it has room for cap in all. -/
def Head (w : World) (g : Nat) (xs : List Rg) (cap : Nat) : Prop := ∃ ys, RowR w g (xs ++ ys) ∧ xs.length + ys.length = cap
theorem Head.sl {w : World} {g cap n : Nat} {xs : List Rg} (h : Head w g xs cap) (hc : cap ≤ 9223372036854775807) (hn : n = xs.length) : Sl w (.slice (some ⟨g, 0, none⟩) n cap) (some g) xs := by
  obtain ⟨ys, h1, h2⟩ := h
  subst hn
  exact .inr ⟨g, ys, rfl, by rw [h2], h1, by omega⟩

theorem Sl.nil (w : World) : Sl w (.slice none 0 0) none [] := .inl ⟨rfl, rfl, rfl⟩
theorem Sl.lt {w : World} {v : Value} {og : Option Nat} {xs : List Rg} (h : Sl w v og xs) : ∀ g, og = some g → g < w.heap.size := by
  rcases h with ⟨_, _, rfl⟩ | ⟨g, ys, rfl, _, h, _⟩
  · intro g hg; cases hg
  · intro g' hg
    cases hg
    exact heap_lt h
theorem Sl.keeps {F : Nat → Prop} {w w' : World} {v : Value} {og : Option Nat} {xs : List Rg} (h : Sl w v og xs) (hu : Upd F w w') (hF : ∀ g, og = some g → ¬ F g) : Sl w' v og xs := by
  rcases h with h | ⟨g, ys, rfl, hv, h, hl⟩
  · exact .inl h
  · exact .inr ⟨g, ys, rfl, hv, hu.keeps h (hF g rfl), hl⟩
theorem Sl.below {w w' : World} {v : Value} {og : Option Nat} {xs : List Rg} (h : Sl w v og xs) (hu : Below w.heap.size w w') : Sl w' v og xs :=
  h.keeps (Upd.below hu) (fun g hg => by have := h.lt g hg; omega)
theorem Sl.drewN {w : World} {v : Value} {og : Option Nat} {xs : List Rg} (h : Sl w v og xs) (n : Nat) : Sl (w.drewN n) v og xs := h

theorem splice_end {β : Type} (a b c : List β) (_h : c.length ≤ b.length) : splice (a ++ b) a.length c = a ++ (c ++ b.drop c.length) := by
  unfold splice
  rw [List.take_append_of_le_length (Nat.le_refl _), List.take_length, ← List.drop_drop, List.drop_append_of_le_length (Nat.le_refl _), List.drop_length, List.nil_append]
theorem splice_at {β : Type} (L a b c : List β) (hL : L = a ++ b) (o : Nat) (ho : o = a.length) (h : c.length ≤ b.length) : splice L o c = a ++ (c ++ b.drop c.length) := by
  subst hL ho
  exact splice_end a b c h
end Go.Proofs.YtnneoeimgbemfaaGreat
