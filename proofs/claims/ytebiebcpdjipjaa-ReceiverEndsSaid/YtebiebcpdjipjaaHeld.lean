/- DERIVED. Steps of a region that is walked by hand: a run, a new row, a part of a slice; what they leave. -/
import Derived.Test.YtebiebcpdjipjaaTill
import Derived.Test.YtebiebcpdjipjaaView
namespace Go.Proofs.Ytebiebcpdjipjaa
open Go.RowKit

theorem cell_upd {F : Nat → Prop} {w w' : World} {b o : Nat} {v : Value} (hu : Upd F w w') (h : w.cell? ⟨b, o, none⟩ = some v) (hF : ¬ F b) (hb : b < w.heap.size) : w'.cell? ⟨b, o, none⟩ = some v :=
  (World.cell?_of_block (w := w) (a := ⟨b, o, none⟩) (hu.block b hb hF)).trans h

section
variable {P : Program} {ops : Array Oper} {o : Oper} {a : Act} {w : World} {K : Act → World → Prop} {Q : Exit → Act → World → Prop} {F : Prop}
theorem step_run (hg : o.guard = none) {v : Value} {W : World} (hrun : (execOp a.eval o).run P w = .ok (.value v) W) (hK : K (a.put o.dst v) W) :
    if Region.wanted o (yielded ops a.tmps) = true then Oper.wp P o a w K Q else F := by
  have hw : Region.wanted o (yielded ops a.tmps) = true := by simp [Region.wanted, hg]
  rw [if_pos hw]
  unfold Oper.wp
  rw [hrun]
  exact hK
/-- A new row. -/
theorem step_fresh {α : Type} {enc : α → List Value} {E : TypeId} (hg : o.guard = none) (zs : List α) (cs : Array Value) (hcs : cs.toList = flat enc zs) (h63 : zs.length ≤ 9223372036854775807)
    (hrun : (execOp a.eval o).run P w = .ok (.value (.slice (some ⟨w.heap.size, 0, none⟩) zs.length zs.length)) (w.alloc (.cells cs E)))
    (hK : ∀ W v g, SlG enc E W v (some g) zs → w.heap.size ≤ g → Below w.heap.size w W → K (a.put o.dst v) W) :
    if Region.wanted o (yielded ops a.tmps) = true then Oper.wp P o a w K Q else F := by
  refine step_run hg hrun (hK _ _ w.heap.size (.inr ⟨w.heap.size, [], rfl, by simp, ?_, by simpa using h63⟩) (Nat.le_refl _) ((Below.refl _ _).alloc (Nat.le_refl _) _))
  unfold Row
  rw [alloc_at, List.append_nil, ← hcs]

/-- What is left of a slice from a place on. -/
def tailV (oa : Option Addr) (k len cap n : Nat) : Value := .slice (if cap = n then oa else oa.map (·.add (n * k))) (len - n) (cap - n)
theorem exec_tail {t e : TypeId} (hu : P.underlying t = some (.slice e)) {i : TypeInfo} (hi : P.info? e = some i) {f : Operand → Value} {x l : Operand} (ho : o.op = .slice t x (some l) none none) {oa : Option Addr} {len cap n : Nat} (hx : f x = .slice oa len cap) (hl : f l = .int .i64 n) (h1 : n ≤ len) (h2 : len ≤ cap) :
    (execOp f o).run P w = .ok (.value (tailV oa i.size len cap n)) w := by
  simp [execOp, ho, hx, hl, Instr.sliceAt, Instr.slice, run_underlying hu, Instr.sliceBounds, Instr.sliceBound, sizeOf, typeInfo, asIntOf, hi, h1, h2, tailV]
end
theorem Vw.tail {α : Type} {enc : α → List Value} {k : Nat} {w : World} {B : Nat} {oa : Option Addr} {len cap n : Nat} {xs : List α} (h : Vw enc w B (.slice oa len cap) xs) (hk : ∀ a, (enc a).length = k) (hn : n ≤ len) : Vw enc w B (tailV oa k len cap n) (xs.drop n) := by
  obtain ⟨oa', cap', h1, h2, h3, h4⟩ := h
  cases h1
  refine ⟨_, cap - n, by rw [tailV, List.length_drop], by rw [List.length_drop]; omega, by omega, ?_⟩
  rcases Nat.eq_or_lt_of_le hn with e | e
  · left
    rw [e, List.drop_length]
  · right
    rcases h4 with rfl | ⟨b, off, rfl, h5, h6⟩
    · simp at e
    · refine ⟨b, off + n * k, ?_, h5, ?_⟩
      · rw [if_neg (by omega)]
        simp [add_lit']
      · intro j u hj
        rw [← flat_drop hk, List.getElem?_drop] at hj
        rw [Nat.add_assoc]
        exact h6 _ u hj
/-- A cell of a row of one's own is set. -/
theorem SlG.put {α : Type} {enc : α → List Value} {f : α → Value} (hf : ∀ a, enc a = [f a]) {E : TypeId} {w : World} {oa : Option Addr} {n cap : Nat} {og : Option Nat} {xs : List α} (h : SlG enc E w (.slice oa n cap) og xs) {i : Nat} (hi : i < n) (a : α) :
    ∃ g, og = some g ∧ oa = some ⟨g, 0, none⟩ ∧ SlG enc E (w.setCell ⟨g, i, none⟩ (f a)) (.slice oa n cap) og (xs.set i a) := by
  rcases h with ⟨h1, rfl, rfl⟩ | ⟨g, ys, rfl, h1, hr, hl⟩
  · cases h1
    omega
  · cases h1
    refine ⟨g, rfl, rfl, .inr ⟨g, ys, rfl, by simp, ?_, by simpa using hl⟩⟩
    unfold Row at *
    rw [set_at hr]
    congr 1
    have e : xs.set i a ++ ys = (xs ++ ys).set i a := by rw [List.set_append_left _ _ hi]
    rw [e]
    have key : ∀ (l : List α) (i : Nat), flat enc (l.set i a) = (flat enc l).set i (f a) := by
      intro l
      induction l with
      | nil => intro i; simp [flat]
      | cons b l ih =>
        intro i
        cases i with
        | zero => simp [flat_cons, hf]
        | succ i => simp [flat_cons, hf, ih]
    rw [key]
    simp
theorem row_types {α β : Type} {e1 : α → List Value} {e2 : β → List Value} {E1 E2 : TypeId} {w : World} {v1 v2 : Value} {o1 o2 : Option Nat} {xs : List α} {ys : List β} (h1 : SlG e1 E1 w v1 o1 xs) (h2 : SlG e2 E2 w v2 o2 ys) (hne : E1 ≠ E2) {g : Nat} (q1 : o1 = some g) (q2 : o2 = some g) : False := by
  rcases h1 with ⟨_, _, rfl⟩ | ⟨g1, z1, rfl, _, hr1, _⟩
  · cases q1
  · rcases h2 with ⟨_, _, rfl⟩ | ⟨g2, z2, rfl, _, hr2, _⟩
    · cases q2
    · cases q1
      cases q2
      unfold Row at hr1 hr2
      rw [hr1] at hr2
      simp at hr2
      exact hne hr2.2
theorem SlG.el1 {α : Type} {enc : α → List Value} {f : α → Value} (hf : ∀ a, enc a = [f a]) {E : TypeId} {w : World} {oa : Option Addr} {n cap : Nat} {og : Option Nat} {xs : List α} (h : SlG enc E w (.slice oa n cap) og xs) {i : Nat} {a : α} (ha : xs[i]? = some a) :
    ∃ g, og = some g ∧ oa = some ⟨g, 0, none⟩ ∧ g < w.heap.size ∧ w.cell? ⟨g, i, none⟩ = some (f a) ∧ w.frozen? ⟨g, i, none⟩ = false := by
  rcases h with ⟨h1, rfl, rfl⟩ | ⟨g, ys, rfl, h1, hr, hl⟩
  · simp at ha
  · cases h1
    refine ⟨g, rfl, rfl, heap_lt hr, ?_, hr.free i⟩
    have hi : (xs ++ ys)[i]? = some a := by
      rw [List.getElem?_append_left (by rw [List.getElem?_eq_some_iff] at ha; exact ha.1)]
      exact ha
    have := hr.el (k := 1) (fun a => by rw [hf]; rfl) i 0 (by omega) hi
    rw [hf] at this
    simpa using this
theorem og_new {B n : Nat} {og og' : Option Nat} (h : ∀ g, og = some g → B ≤ g) (hn : B ≤ n) (ho : og' = og ∨ ∃ g, og' = some g ∧ n ≤ g) : ∀ g, og' = some g → B ≤ g := by
  rcases ho with rfl | ⟨g, rfl, h2⟩
  · exact h
  · intro j e
    cases e
    omega
end Go.Proofs.Ytebiebcpdjipjaa
