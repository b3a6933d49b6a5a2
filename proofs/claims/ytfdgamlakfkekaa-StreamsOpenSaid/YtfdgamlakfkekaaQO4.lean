/- DERIVED. Slices that are only read: whatever their block holds besides; parts of them. -/
import Derived.Laws.BytesArg
import Derived.Deep.DeepCutAuto
import Derived.Laws.Rows
import Derived.Laws.Tables
import Derived.Laws.MakeOwn
import Derived.Laws.OwnMore
import Derived.Deep.RegionLaw
import Derived.Deep.DeepMust
import Derived.Lib.Overlaps
import Derived.Test.YtfdgamlakfkekaaQO2
import Derived.Test.YtfdgamlakfkekaaQO3
set_option linter.all false
namespace Go.Proofs.Ytfdgamlakfkekaa
open Go.RowKit

section
variable {α : Type} {enc : α → List Value} {k : Nat}
/-- A slice value that reads as xs; its cells lie in a block below B. -/
def Vw (enc : α → List Value) (w : World) (B : Nat) (v : Value) (xs : List α) : Prop :=
  ∃ oa cap, v = .slice oa xs.length cap ∧ xs.length ≤ cap ∧ cap ≤ 9223372036854775807 ∧ (xs = [] ∨ ∃ b off, oa = some ⟨b, off, none⟩ ∧ b < B ∧ ∀ j u, (flat enc xs)[j]? = some u → w.cell? ⟨b, off + j, none⟩ = some u)
theorem Vw.below {w w' : World} {B : Nat} {v : Value} {xs : List α} (h : Vw enc w B v xs) (hb : Below B w w') : Vw enc w' B v xs := by
  obtain ⟨oa, cap, h1, h2, h3, h4⟩ := h
  refine ⟨oa, cap, h1, h2, h3, ?_⟩
  rcases h4 with h4 | ⟨b, off, h4, h5, h6⟩
  · exact .inl h4
  · exact .inr ⟨b, off, h4, h5, fun j u hu => (hb.cell (p := ⟨b, off + j, none⟩) h5).trans (h6 j u hu)⟩
theorem Vw.mono {w : World} {B B' : Nat} {v : Value} {xs : List α} (h : Vw enc w B v xs) (hb : B ≤ B') : Vw enc w B' v xs := by
  obtain ⟨oa, cap, h1, h2, h3, h4⟩ := h
  refine ⟨oa, cap, h1, h2, h3, ?_⟩
  rcases h4 with h4 | ⟨b, off, h4, h5, h6⟩
  · exact .inl h4
  · exact .inr ⟨b, off, h4, by omega, h6⟩
theorem Vw.upd {F : Nat → Prop} {w w' : World} {B : Nat} {v : Value} {xs : List α} (h : Vw enc w B v xs) (hu : Upd F w w') (hB : B ≤ w.heap.size) (hF : ∀ b, b < B → ¬ F b) : Vw enc w' B v xs :=
  h.below ⟨hu.os, hu.tape, hu.output, hu.size, fun j hj => hu.block j (by omega) (hF j hj)⟩
theorem Vw.shape {w : World} {B : Nat} {v : Value} {xs : List α} (h : Vw enc w B v xs) : ∃ oa cap, v = .slice oa xs.length cap ∧ xs.length ≤ cap ∧ cap ≤ 9223372036854775807 := by
  obtain ⟨oa, cap, h1, h2, h3, _⟩ := h
  exact ⟨oa, cap, h1, h2, h3⟩
theorem Vw.nil (w : World) (B : Nat) (oa : Option Addr) (cap : Nat) (h : cap ≤ 9223372036854775807) : Vw enc w B (.slice oa 0 cap) [] := ⟨oa, cap, rfl, by simp, h, .inl rfl⟩
theorem SlG.vw {E : TypeId} {w : World} {v : Value} {og : Option Nat} {xs : List α} (h : SlG enc E w v og xs) : Vw enc w w.heap.size v xs := by
  rcases h with ⟨rfl, rfl, rfl⟩ | ⟨g, ys, rfl, rfl, hr, hl⟩
  · exact Vw.nil _ _ _ _ (by omega)
  · refine ⟨_, _, rfl, by omega, hl, .inr ⟨g, 0, rfl, heap_lt hr, ?_⟩⟩
    intro j u hj
    rw [Nat.zero_add, hr.cell, flat_append]
    rw [List.getElem?_append_left (by rw [List.getElem?_eq_some_iff] at hj; exact hj.1)]
    exact hj
theorem Vw.src {w : World} {B : Nat} {v : Value} {xs : List α} (h : Vw enc w B v xs) (hx : 0 < xs.length) : ∃ ad cap, v = .slice (some ad) xs.length cap ∧ Src enc w ad xs := by
  obtain ⟨oa, cap, h1, h2, h3, h4⟩ := h
  rcases h4 with rfl | ⟨b, off, rfl, h5, h6⟩
  · simp at hx
  · refine ⟨_, cap, h1, fun j u hu => ?_⟩
    rw [add_lit']
    exact h6 j u hu
/-- An element's cells. -/
theorem Vw.el {w : World} {B : Nat} {oa : Option Addr} {n cap : Nat} {xs : List α} (h : Vw enc w B (.slice oa n cap) xs) (hk : ∀ a, (enc a).length = k) {i : Nat} {a : α} (ha : xs[i]? = some a) :
    ∃ b off, oa = some ⟨b, off, none⟩ ∧ b < B ∧ ∀ j, j < k → w.cell? ⟨b, off + i * k + j, none⟩ = (enc a)[j]? := by
  obtain ⟨oa', cap', h1, h2, h3, h4⟩ := h
  cases h1
  rcases h4 with rfl | ⟨b, off, rfl, h5, h6⟩
  · simp at ha
  · refine ⟨b, off, rfl, h5, fun j hj => ?_⟩
    have hg := flat_get hk xs i j hj ha
    obtain ⟨u, hu⟩ : ∃ u, (enc a)[j]? = some u := ⟨_, List.getElem?_eq_getElem (by rw [hk]; exact hj)⟩
    rw [hu] at hg ⊢
    rw [Nat.add_assoc]
    exact h6 _ u hg
/-- A part of it: from p on, n elements. -/
theorem Vw.part {w : World} {B : Nat} {b off len cap : Nat} {xs : List α} (h : Vw enc w B (.slice (some ⟨b, off, none⟩) len cap) xs) (hk : ∀ a, (enc a).length = k) (p n c : Nat) (hp : p + n ≤ xs.length) (hn : n ≤ c) (hc : c ≤ 9223372036854775807) :
    Vw enc w B (.slice (some ⟨b, off + p * k, none⟩) n c) ((xs.drop p).take n) := by
  obtain ⟨oa', cap', h1, h2, h3, h4⟩ := h
  have hl : ((xs.drop p).take n).length = n := by rw [List.length_take, List.length_drop]; omega
  refine ⟨_, c, by rw [hl], by rw [hl]; exact hn, hc, ?_⟩
  rcases h4 with rfl | ⟨b', off', h4, h5, h6⟩
  · left
    simp
  · cases h1
    cases h4
    refine .inr ⟨b, off + p * k, rfl, h5, fun j u hj => ?_⟩
    rw [Nat.add_assoc]
    apply h6
    rw [← flat_take hk, ← flat_drop hk] at hj
    rw [List.getElem?_take] at hj
    split at hj
    · rw [List.getElem?_drop] at hj
      exact hj
    · cases hj
end

section
variable {α : Type} {enc : α → List Value} {k : Nat} {P : Program} {w : World} {e dT : TypeId} {i : TypeInfo}
/-- append(s, x...), x read only. -/
theorem run_pushV (hk : ∀ a, (enc a).length = k) (h1 : ∀ a, ∀ v ∈ enc a, v.oneCell' = true) (hu : P.underlying dT = some (.slice e)) (hi : P.info? e = some i) (hz : i.size = k) {z : Value} (hzz : i.zero = some z) {a0 : α} (ha0 : z.cells.toList = enc a0) (ty : TypeId)
    {v u : Value} {og : Option Nat} {xs zs : List α} {B : Nat} (h : SlG enc e w v og xs) (hs : Vw enc w B u zs) (h63 : xs.length + zs.length ≤ 9223372036854775807) (hb : (xs.length + zs.length) * i.bytes ≤ 140737488355328) :
    ∃ W v' og', (Builtin.append_ #[dT, dT] ty #[v, u]).run P w = .ok v' W ∧ SlG enc e W v' og' (xs ++ zs) ∧ (og' = og ∨ ∃ g, og' = some g ∧ w.heap.size ≤ g) ∧ Upd (fun j => og = some j) w W := by
  rcases Nat.eq_zero_or_pos zs.length with h0 | h0
  · obtain ⟨oa, cap, rfl, _, _⟩ := hs.shape
    have e0 := List.eq_nil_of_length_eq_zero h0
    subst e0
    refine ⟨w, v, og, run_push_none hu hi ty h oa cap hk, by rw [List.append_nil]; exact h, .inl rfl, Upd.refl _ _⟩
  · obtain ⟨ad, cap, rfl, hsrc⟩ := hs.src h0
    exact run_push hk h1 hu hi hz hzz ha0 ty h hsrc cap h0 h63 hb
theorem wpList_pushV (hk : ∀ a, (enc a).length = k) (h1 : ∀ a, ∀ v ∈ enc a, v.oneCell' = true) (hu : P.underlying dT = some (.slice e)) (hi : P.info? e = some i) (hz : i.size = k) {z : Value} (hzz : i.zero = some z) {a0 : α} (ha0 : z.cells.toList = enc a0)
    {ops : Array Oper} {rest : List Oper} {o : Oper} {a : Act} {Q : Exit → Act → World → Prop} (hgd : o.guard = none) (d s : Operand)
    (ho : o.op = .call { callee := .builtin .append, args := #[d, s], argTypes := #[dT, dT] }) {v u : Value} {og : Option Nat} {xs : List α} (h : SlG enc e w v og xs) {B : Nat} {zs : List α} (hs : Vw enc w B u zs)
    (hd : a.eval d = v) (hsv : a.eval s = u) (hb : (xs.length + zs.length) * i.bytes ≤ 140737488355328) (hb1 : xs.length + zs.length ≤ 9223372036854775807)
    (hK : ∀ W v' og', SlG enc e W v' og' (xs ++ zs) → (og' = og ∨ ∃ g, og' = some g ∧ w.heap.size ≤ g) → Upd (fun j => og = some j) w W → wpList P ops Q rest (a.put o.dst v') W) : wpList P ops Q (o :: rest) a w := by
  obtain ⟨W, v', og', h2, h3, h4, h5⟩ := run_pushV hk h1 hu hi hz hzz ha0 o.type h hs hb1 hb
  exact Lib.wpList_append_run w hgd d s dT dT ho _ _ hd hsv _ _ h2 (hK W v' og' h3 h4 h5)
theorem step_pushV (hk : ∀ a, (enc a).length = k) (h1 : ∀ a, ∀ v ∈ enc a, v.oneCell' = true) (hu : P.underlying dT = some (.slice e)) (hi : P.info? e = some i) (hz : i.size = k) {z : Value} (hzz : i.zero = some z) {a0 : α} (ha0 : z.cells.toList = enc a0)
    {ops : Array Oper} {o : Oper} {a : Act} {K : Act → World → Prop} {Q : Exit → Act → World → Prop} {F : Prop} (hgd : o.guard = none) (d s : Operand)
    (ho : o.op = .call { callee := .builtin .append, args := #[d, s], argTypes := #[dT, dT] }) {v u : Value} {og : Option Nat} {xs : List α} (h : SlG enc e w v og xs) {B : Nat} {zs : List α} (hs : Vw enc w B u zs)
    (hd : a.eval d = v) (hsv : a.eval s = u) (hb : (xs.length + zs.length) * i.bytes ≤ 140737488355328) (hb1 : xs.length + zs.length ≤ 9223372036854775807)
    (hK : ∀ W v' og', SlG enc e W v' og' (xs ++ zs) → (og' = og ∨ ∃ g, og' = some g ∧ w.heap.size ≤ g) → Upd (fun j => og = some j) w W → K (a.put o.dst v') W) : if Region.wanted o (yielded ops a.tmps) = true then Oper.wp P o a w K Q else F := by
  obtain ⟨W, v', og', h2, h3, h4, h5⟩ := run_pushV hk h1 hu hi hz hzz ha0 o.type h hs hb1 hb
  exact step_append_run w hgd d s dT dT ho _ _ hd hsv h2 (hK W v' og' h3 h4 h5)
end

/-- Bytes. -/
def encB (n : Nat) : List Value := [.int .u8 n]
theorem encB_len (n : Nat) : (encB n).length = 1 := rfl
theorem encB_one (n : Nat) : ∀ v ∈ encB n, v.oneCell' = true := by
  intro v hv
  simp [encB] at hv
  subst hv
  rfl
theorem flatB (l : List Nat) : flat encB l = l.map (fun (n : Nat) => Value.int .u8 (n : Int)) := by
  induction l with
  | nil => rfl
  | cons a l ih => rw [flat_cons, ih]; rfl
def Bys (l : List Nat) : Prop := ∀ n ∈ l, n < 256
/-- Bools. -/
def encL (b : Bool) : List Value := [.bool b]
theorem encL_len (b : Bool) : (encL b).length = 1 := rfl
theorem encL_one (b : Bool) : ∀ v ∈ encL b, v.oneCell' = true := by
  intro v hv
  simp [encL] at hv
  subst hv
  rfl
theorem Vw.byte {w : World} {B : Nat} {oa : Option Addr} {n cap : Nat} {xs : List Nat} (h : Vw encB w B (.slice oa n cap) xs) {i x : Nat} (hx : xs[i]? = some x) :
    ∃ b off, oa = some ⟨b, off, none⟩ ∧ b < B ∧ w.cell? ⟨b, off + i, none⟩ = some (.int .u8 x) := by
  obtain ⟨b, off, h1, h2, h3⟩ := h.el encB_len hx
  refine ⟨b, off, h1, h2, ?_⟩
  have := h3 0 (by omega)
  simpa [encB] using this
end Go.Proofs.Ytfdgamlakfkekaa

/- DERIVED. Steps of a region that is walked by hand: a run, a new row, a part of a slice; what they leave. -/
namespace Go.Proofs.Ytfdgamlakfkekaa
open Go.RowKit

theorem cell_upd {F : Nat → Prop} {w w' : World} {b o : Nat} {v : Value} (hu : Upd F w w') (h : w.cell? ⟨b, o, none⟩ = some v) (hF : ¬ F b) (hb : b < w.heap.size) : w'.cell? ⟨b, o, none⟩ = some v :=
  (World.cell?_of_block (w := w) (a := ⟨b, o, none⟩) (hu.block b hb hF)).trans h

section
variable {P : Program} {ops : Array Oper} {o : Oper} {a : Act} {w : World} {K : Act → World → Prop} {Q : Exit → Act → World → Prop} {F : Prop}
theorem step_run (hg : o.guard = none) {v : Value} {W : World} (hrun : (execOp a.eval o).run P w = .ok (.value v) W) (hK : K (a.put o.dst v) W) :
    if Region.wanted o (yielded ops a.tmps) = true then Oper.wp P o a w K Q else F := by
  have hw : Region.wanted o (yielded ops a.tmps) = true := by simp [Region.wanted, hg]
  rw [if_pos hw]
  unfold Oper.wp
  rw [hrun]
  exact hK
/-- A new row. -/
theorem step_fresh {α : Type} {enc : α → List Value} {E : TypeId} (hg : o.guard = none) (zs : List α) (cs : Array Value) (hcs : cs.toList = flat enc zs) (h63 : zs.length ≤ 9223372036854775807)
    (hrun : (execOp a.eval o).run P w = .ok (.value (.slice (some ⟨w.heap.size, 0, none⟩) zs.length zs.length)) (w.alloc (.cells cs E)))
    (hK : ∀ W v g, SlG enc E W v (some g) zs → w.heap.size ≤ g → Below w.heap.size w W → K (a.put o.dst v) W) :
    if Region.wanted o (yielded ops a.tmps) = true then Oper.wp P o a w K Q else F := by
  refine step_run hg hrun (hK _ _ w.heap.size (.inr ⟨w.heap.size, [], rfl, by simp, ?_, by simpa using h63⟩) (Nat.le_refl _) ((Below.refl _ _).alloc (Nat.le_refl _) _))
  unfold Row
  rw [alloc_at, List.append_nil, ← hcs]

/-- What is left of a slice from a place on. -/
def tailV (oa : Option Addr) (k len cap n : Nat) : Value := .slice (if cap = n then oa else oa.map (·.add (n * k))) (len - n) (cap - n)
theorem exec_tail {t e : TypeId} (hu : P.underlying t = some (.slice e)) {i : TypeInfo} (hi : P.info? e = some i) {f : Operand → Value} {x l : Operand} (ho : o.op = .slice t x (some l) none none) {oa : Option Addr} {len cap n : Nat} (hx : f x = .slice oa len cap) (hl : f l = .int .i64 n) (h1 : n ≤ len) (h2 : len ≤ cap) :
    (execOp f o).run P w = .ok (.value (tailV oa i.size len cap n)) w := by
  simp [execOp, ho, hx, hl, Instr.sliceAt, Instr.slice, run_underlying hu, Instr.sliceBounds, Instr.sliceBound, sizeOf, typeInfo, asIntOf, hi, h1, h2, tailV]
end
theorem Vw.tail {α : Type} {enc : α → List Value} {k : Nat} {w : World} {B : Nat} {oa : Option Addr} {len cap n : Nat} {xs : List α} (h : Vw enc w B (.slice oa len cap) xs) (hk : ∀ a, (enc a).length = k) (hn : n ≤ len) : Vw enc w B (tailV oa k len cap n) (xs.drop n) := by
  obtain ⟨oa', cap', h1, h2, h3, h4⟩ := h
  cases h1
  refine ⟨_, cap - n, by rw [tailV, List.length_drop], by rw [List.length_drop]; omega, by omega, ?_⟩
  rcases Nat.eq_or_lt_of_le hn with e | e
  · left
    rw [e, List.drop_length]
  · right
    rcases h4 with rfl | ⟨b, off, rfl, h5, h6⟩
    · simp at e
    · refine ⟨b, off + n * k, ?_, h5, ?_⟩
      · rw [if_neg (by omega)]
        simp [add_lit']
      · intro j u hj
        rw [← flat_drop hk, List.getElem?_drop] at hj
        rw [Nat.add_assoc]
        exact h6 _ u hj
/-- A cell of a row of one's own is set. -/
theorem SlG.put {α : Type} {enc : α → List Value} {f : α → Value} (hf : ∀ a, enc a = [f a]) {E : TypeId} {w : World} {oa : Option Addr} {n cap : Nat} {og : Option Nat} {xs : List α} (h : SlG enc E w (.slice oa n cap) og xs) {i : Nat} (hi : i < n) (a : α) :
    ∃ g, og = some g ∧ oa = some ⟨g, 0, none⟩ ∧ SlG enc E (w.setCell ⟨g, i, none⟩ (f a)) (.slice oa n cap) og (xs.set i a) := by
  rcases h with ⟨h1, rfl, rfl⟩ | ⟨g, ys, rfl, h1, hr, hl⟩
  · cases h1
    omega
  · cases h1
    refine ⟨g, rfl, rfl, .inr ⟨g, ys, rfl, by simp, ?_, by simpa using hl⟩⟩
    unfold Row at *
    rw [set_at hr]
    congr 1
    have e : xs.set i a ++ ys = (xs ++ ys).set i a := by rw [List.set_append_left _ _ hi]
    rw [e]
    have key : ∀ (l : List α) (i : Nat), flat enc (l.set i a) = (flat enc l).set i (f a) := by
      intro l
      induction l with
      | nil => intro i; simp [flat]
      | cons b l ih =>
        intro i
        cases i with
        | zero => simp [flat_cons, hf]
        | succ i => simp [flat_cons, hf, ih]
    rw [key]
    simp
theorem row_types {α β : Type} {e1 : α → List Value} {e2 : β → List Value} {E1 E2 : TypeId} {w : World} {v1 v2 : Value} {o1 o2 : Option Nat} {xs : List α} {ys : List β} (h1 : SlG e1 E1 w v1 o1 xs) (h2 : SlG e2 E2 w v2 o2 ys) (hne : E1 ≠ E2) {g : Nat} (q1 : o1 = some g) (q2 : o2 = some g) : False := by
  rcases h1 with ⟨_, _, rfl⟩ | ⟨g1, z1, rfl, _, hr1, _⟩
  · cases q1
  · rcases h2 with ⟨_, _, rfl⟩ | ⟨g2, z2, rfl, _, hr2, _⟩
    · cases q2
    · cases q1
      cases q2
      unfold Row at hr1 hr2
      rw [hr1] at hr2
      simp at hr2
      exact hne hr2.2
theorem SlG.el1 {α : Type} {enc : α → List Value} {f : α → Value} (hf : ∀ a, enc a = [f a]) {E : TypeId} {w : World} {oa : Option Addr} {n cap : Nat} {og : Option Nat} {xs : List α} (h : SlG enc E w (.slice oa n cap) og xs) {i : Nat} {a : α} (ha : xs[i]? = some a) :
    ∃ g, og = some g ∧ oa = some ⟨g, 0, none⟩ ∧ g < w.heap.size ∧ w.cell? ⟨g, i, none⟩ = some (f a) ∧ w.frozen? ⟨g, i, none⟩ = false := by
  rcases h with ⟨h1, rfl, rfl⟩ | ⟨g, ys, rfl, h1, hr, hl⟩
  · simp at ha
  · cases h1
    refine ⟨g, rfl, rfl, heap_lt hr, ?_, hr.free i⟩
    have hi : (xs ++ ys)[i]? = some a := by
      rw [List.getElem?_append_left (by rw [List.getElem?_eq_some_iff] at ha; exact ha.1)]
      exact ha
    have := hr.el (k := 1) (fun a => by rw [hf]; rfl) i 0 (by omega) hi
    rw [hf] at this
    simpa using this
theorem og_new {B n : Nat} {og og' : Option Nat} (h : ∀ g, og = some g → B ≤ g) (hn : B ≤ n) (ho : og' = og ∨ ∃ g, og' = some g ∧ n ≤ g) : ∀ g, og' = some g → B ≤ g := by
  rcases ho with rfl | ⟨g, rfl, h2⟩
  · exact h
  · intro j e
    cases e
    omega
end Go.Proofs.Ytfdgamlakfkekaa

/- DERIVED. Slices that are only read, and lie apart from some blocks. -/
namespace Go.Proofs.Ytfdgamlakfkekaa
open Go.RowKit

section
variable {α : Type} {enc : α → List Value}
/-- A slice that is only read, and lies apart from some blocks. -/
def VwA (enc : α → List Value) (fp : Nat → Prop) (w : World) (v : Value) (xs : List α) : Prop :=
  ∃ oa cap, v = .slice oa xs.length cap ∧ xs.length ≤ cap ∧ cap ≤ 9223372036854775807 ∧ (xs = [] ∨ ∃ b off, oa = some ⟨b, off, none⟩ ∧ b < w.heap.size ∧ ¬ fp b ∧ ∀ j u, (flat enc xs)[j]? = some u → w.cell? ⟨b, off + j, none⟩ = some u)
theorem Vw.apart {w : World} {B : Nat} {v : Value} {xs : List α} {fp : Nat → Prop} (h : Vw enc w B v xs) (hB : B ≤ w.heap.size) (hf : ∀ k, fp k → B ≤ k) : VwA enc fp w v xs := by
  obtain ⟨oa, cap, h1, h2, h3, h4⟩ := h
  refine ⟨oa, cap, h1, h2, h3, ?_⟩
  rcases h4 with h4 | ⟨b, off, h4, h5, h6⟩
  · exact .inl h4
  · exact .inr ⟨b, off, h4, by omega, fun hb => by have := hf b hb; omega, h6⟩
theorem VwA.upd {w w' : World} {v : Value} {xs : List α} {fp F : Nat → Prop} (h : VwA enc fp w v xs) (hu : Upd F w w') (hF : ∀ k, F k → fp k) : VwA enc fp w' v xs := by
  obtain ⟨oa, cap, h1, h2, h3, h4⟩ := h
  refine ⟨oa, cap, h1, h2, h3, ?_⟩
  rcases h4 with h4 | ⟨b, off, h4, h5, h6, h7⟩
  · exact .inl h4
  · refine .inr ⟨b, off, h4, Nat.lt_of_lt_of_le h5 hu.size, h6, fun j u hj => ?_⟩
    rw [World.cell?_of_block (hu.block b h5 (fun hx => h6 (hF b hx)))]
    exact h7 j u hj
theorem VwA.shape {fp : Nat → Prop} {w : World} {v : Value} {xs : List α} (h : VwA enc fp w v xs) : ∃ oa cap, v = .slice oa xs.length cap ∧ xs.length ≤ cap ∧ cap ≤ 9223372036854775807 := by
  obtain ⟨oa, cap, h1, h2, h3, _⟩ := h
  exact ⟨oa, cap, h1, h2, h3⟩
end
theorem VwA.byte {fp : Nat → Prop} {w : World} {oa : Option Addr} {n cap : Nat} {xs : List Nat} (h : VwA encB fp w (.slice oa n cap) xs) {i x : Nat} (hx : xs[i]? = some x) :
    ∃ b off, oa = some ⟨b, off, none⟩ ∧ w.cell? ⟨b, off + i, none⟩ = some (.int .u8 x) := by
  obtain ⟨oa', cap', h1, h2, h3, h4⟩ := h
  cases h1
  rcases h4 with rfl | ⟨b, off, rfl, h5, h6, h7⟩
  · simp at hx
  · refine ⟨b, off, rfl, h7 i _ ?_⟩
    rw [flatB, List.getElem?_map, hx]
    rfl

theorem VwA.mono {α : Type} {enc : α → List Value} {w : World} {v : Value} {xs : List α} {fp F : Nat → Prop} (h : VwA enc fp w v xs) (hF : ∀ k, F k → fp k) : VwA enc F w v xs := by
  obtain ⟨oa, cap, h1, h2, h3, h4⟩ := h
  refine ⟨oa, cap, h1, h2, h3, ?_⟩
  rcases h4 with h4 | ⟨b, off, h4, h5, h6, h7⟩
  · exact .inl h4
  · exact .inr ⟨b, off, h4, h5, fun q => h6 (hF b q), h7⟩
theorem VwA.below {α : Type} {enc : α → List Value} {w w' : World} {v : Value} {xs : List α} {fp : Nat → Prop} (h : VwA enc fp w v xs) (hb : Below w.heap.size w w') : VwA enc fp w' v xs := by
  obtain ⟨oa, cap, h1, h2, h3, h4⟩ := h
  refine ⟨oa, cap, h1, h2, h3, ?_⟩
  rcases h4 with h4 | ⟨b, off, h4, h5, h6, h7⟩
  · exact .inl h4
  · refine .inr ⟨b, off, h4, Nat.lt_of_lt_of_le h5 hb.size, h6, fun j u hj => ?_⟩
    rw [hb.cell (p := ⟨b, off + j, none⟩) h5]
    exact h7 j u hj
theorem VwA.front {α : Type} {enc : α → List Value} {k : Nat} (hk : ∀ a, (enc a).length = k) {fp : Nat → Prop} {w : World} {oa : Option Addr} {len cap : Nat} {xs : List α} (h : VwA enc fp w (.slice oa len cap) xs) (n : Nat) (hn : n ≤ len) : VwA enc fp w (.slice oa n cap) (xs.take n) := by
  obtain ⟨oa', cap', h1, h2, h3, h4⟩ := h
  cases h1
  have hl : (xs.take n).length = n := by rw [List.length_take]; omega
  refine ⟨oa, cap, by rw [hl], by rw [hl]; omega, h3, ?_⟩
  rcases h4 with rfl | ⟨b, off, rfl, h5, h6, h7⟩
  · left
    simp
  · refine .inr ⟨b, off, rfl, h5, h6, fun j u hj => h7 j u ?_⟩
    rw [← flat_take hk] at hj
    rw [List.getElem?_take] at hj
    split at hj
    · exact hj
    · cases hj
theorem SlG.vwa {α : Type} {enc : α → List Value} {E : TypeId} {fp : Nat → Prop} {w : World} {v : Value} {og : Option Nat} {xs : List α} (h : SlG enc E w v og xs) (ha : ∀ g, og = some g → ¬ fp g) : VwA enc fp w v xs := by
  rcases h with ⟨rfl, rfl, rfl⟩ | ⟨g, ys, rfl, rfl, hr, hl⟩
  · exact ⟨none, 0, rfl, by simp, by omega, .inl rfl⟩
  · refine ⟨_, _, rfl, by omega, hl, .inr ⟨g, 0, rfl, heap_lt hr, ha g rfl, ?_⟩⟩
    intro j u hj
    rw [Nat.zero_add, hr.cell, flat_append, List.getElem?_append_left (by rw [List.getElem?_eq_some_iff] at hj; exact hj.1)]
    exact hj
theorem lit_vwa {fp : Nat → Prop} {w : World} {g n c : Nat} {cs : Array Value} {t : TypeId} {z : Nat × Nat} {xs : List Nat} (h : w.heap[g]? = some (.cells cs t z)) (hl : cs.toList = flat encB xs) (hf : ¬ fp g) (hn : n = xs.length) (hc : n ≤ c) (hc2 : c ≤ 9223372036854775807) :
    VwA encB fp w (.slice (some ⟨g, 0, none⟩) n c) xs := by
  subst hn
  refine ⟨_, c, rfl, hc, hc2, .inr ⟨g, 0, rfl, heap_lt h, hf, fun j u hu => ?_⟩⟩
  rw [Nat.zero_add, cell_at h]
  rw [← hl] at hu
  simpa using hu
end Go.Proofs.Ytfdgamlakfkekaa

/- DERIVED. Bytes that are only read, as a string; the front of a slice (narthexkeep's Cut). -/
namespace Go.Proofs.Ytfdgamlakfkekaa
open Go.RowKit

def strB (l : List Nat) : ByteArray := strOfNums (l.map (fun n : Nat => (n : Int)))
/-- What a slice reads as. -/
def Rds (w : World) (v : Value) (xs : List Nat) : Prop :=
  ∃ oa cap, v = .slice oa xs.length cap ∧ xs.length ≤ cap ∧ cap ≤ 9223372036854775807 ∧ (xs = [] ∨ ∃ b off, oa = some ⟨b, off, none⟩ ∧ ∀ (j x : Nat), xs[j]? = some x → w.cell? ⟨b, off + j, none⟩ = some (.int .u8 x))
theorem VwA.rds {fp : Nat → Prop} {w : World} {v : Value} {xs : List Nat} (h : VwA encB fp w v xs) : Rds w v xs := by
  obtain ⟨oa, cap, h1, h2, h3, h4⟩ := h
  refine ⟨oa, cap, h1, h2, h3, ?_⟩
  rcases h4 with h4 | ⟨b, off, h4, h5, h6, h7⟩
  · exact .inl h4
  · refine .inr ⟨b, off, h4, fun j x hx => h7 j _ ?_⟩
    rw [flatB, List.getElem?_map, hx]
    rfl
theorem VwA.vw {α : Type} {enc : α → List Value} {fp : Nat → Prop} {w : World} {v : Value} {xs : List α} (h : VwA enc fp w v xs) : Vw enc w w.heap.size v xs := by
  obtain ⟨oa, cap, h1, h2, h3, h4⟩ := h
  refine ⟨oa, cap, h1, h2, h3, ?_⟩
  rcases h4 with h4 | ⟨b, off, h4, h5, h6, h7⟩
  · exact .inl h4
  · exact .inr ⟨b, off, h4, h5, h7⟩
theorem Vw.rds {B : Nat} {w : World} {v : Value} {xs : List Nat} (h : Vw encB w B v xs) : Rds w v xs := by
  obtain ⟨oa, cap, h1, h2, h3, h4⟩ := h
  refine ⟨oa, cap, h1, h2, h3, ?_⟩
  rcases h4 with h4 | ⟨b, off, h4, h5, h7⟩
  · exact .inl h4
  · refine .inr ⟨b, off, h4, fun j x hx => h7 j _ ?_⟩
    rw [flatB, List.getElem?_map, hx]
    rfl
theorem Rds.str {P : Program} {w : World} {v : Value} {xs : List Nat} (h : Rds w v xs) {src dst e : TypeId} (hs : P.underlying src = some (.slice e)) (he : P.underlying e = some (.int .u8)) (hd : P.underlying dst = some .string) :
    (convert src dst v).run P w = .ok (.string (strB xs)) w := by
  obtain ⟨oa, cap, rfl, _, _, h4⟩ := h
  rcases h4 with rfl | ⟨b, off, rfl, h7⟩
  · cases oa with
    | none => exact run_convert_bytes_nil w src e hs he _ _ dst hd
    | some a =>
      rw [run_convert_bytes_string w src dst e _ _ cap hs he hd]
      have hl : (loadCells a 0).run P w = .ok #[] w := by simp [loadCells, loadCellsFrom]
      rw [List.length_nil, run_bytesToString w a 0 cap [] (by simpa using hl)]
      rfl
  · refine run_convert_bytes_arg w src e hs he b off xs.length cap (xs.map (fun n : Nat => (n : Int))) (by simp) ?_ dst hd
    intro i hi
    have := h7 i xs[i] (List.getElem?_eq_getElem hi)
    rw [this]
    simp [List.getD, hi]

theorem Vw.front {α : Type} {enc : α → List Value} {k : Nat} (hk : ∀ a, (enc a).length = k) {w : World} {B : Nat} {oa : Option Addr} {len cap : Nat} {xs : List α} (h : Vw enc w B (.slice oa len cap) xs) (n : Nat) (hn : n ≤ len) : Vw enc w B (.slice oa n cap) (xs.take n) := by
  obtain ⟨oa', cap', h1, h2, h3, h4⟩ := h
  cases h1
  have hl : (xs.take n).length = n := by rw [List.length_take]; omega
  refine ⟨oa, cap, by rw [hl], by rw [hl]; omega, h3, ?_⟩
  rcases h4 with rfl | ⟨b, off, rfl, h5, h6⟩
  · left
    simp
  · refine .inr ⟨b, off, rfl, h5, fun j u hj => h6 j u ?_⟩
    rw [← flat_take hk] at hj
    rw [List.getElem?_take] at hj
    split at hj
    · exact hj
    · cases hj
/-- Cut: no more than n. -/
theorem kcut_v {w : World} {B : Nat} {v : Value} {xs : List Nat} (h : Vw encB w B v xs) (n : Nat) (_hn : n ≤ 9223372036854775807) :
    ∃ oa len cap, v = .slice oa len cap ∧ len = xs.length ∧ len ≤ cap ∧ cap ≤ 9223372036854775807 ∧ Vw encB w B (.slice oa (min len n) cap) (xs.take n) := by
  obtain ⟨oa, cap, rfl, h1, h2⟩ := h.shape
  refine ⟨oa, _, cap, rfl, rfl, h1, h2, ?_⟩
  have := h.front encB_len (min xs.length n) (Nat.min_le_left _ _)
  rw [show xs.take (min xs.length n) = xs.take n by
    rcases Nat.le_total n xs.length with h' | h'
    · rw [Nat.min_eq_right h']
    · rw [Nat.min_eq_left h', List.take_length, List.take_of_length_le h']] at this
  exact this
end Go.Proofs.Ytfdgamlakfkekaa

/- DERIVED. Frames as values. -/
namespace Go.Proofs.Ytfdgamlakfkekaa
open Go.RowKit

structure Fr where
  kd : Int
  sid : Nat
  off : Nat
  vd : Value
  fin : Bool
  lim : Nat
  code : Nat
  fnl : Nat
  seq : Nat
  dly : Nat
  vr : Value
  c0 : Nat
  c1 : Nat
  c2 : Nat
  c3 : Nat
  c4 : Nat
  c5 : Nat
  c6 : Nat
  c7 : Nat
def encF (f : Fr) : List Value := [.int .i64 f.kd, .int .u64 f.sid, .int .u64 f.off, f.vd, .bool f.fin, .int .u64 f.lim, .int .u64 f.code, .int .u64 f.fnl, .int .u64 f.seq, .int .u64 f.dly, f.vr,
  .int .u8 f.c0, .int .u8 f.c1, .int .u8 f.c2, .int .u8 f.c3, .int .u8 f.c4, .int .u8 f.c5, .int .u8 f.c6, .int .u8 f.c7]
theorem encF_len (f : Fr) : (encF f).length = 19 := rfl
structure FrOk (f : Fr) : Prop where
  kd : -9223372036854775808 ≤ f.kd ∧ f.kd ≤ 9223372036854775807
  sid : f.sid < 18446744073709551616
  off : f.off < 18446744073709551616
  lim : f.lim < 18446744073709551616
  code : f.code < 18446744073709551616
  fnl : f.fnl < 18446744073709551616
theorem sizeF : (Try.prog.info? 39).map (·.size) = some 19 := by kernel_rfl
def zeroF : Fr := ⟨0, 0, 0, .slice none 0 0, false, 0, 0, 0, 0, 0, .slice none 0 0, 0, 0, 0, 0, 0, 0, 0, 0⟩
theorem results_row_tmp {P : Program} {fn : Func} {p u : Tmp} {ty : TypeId} (h : fn.results = #[.cell p ty, .tmp u]) (tmps : Array Value) (w : World) (g : Nat) (t : TypeId) (cs : Array Value) (fr : Nat × Nat) (d : TypeDesc)
    (hp : tmps.getD p undef = .pointer (some ⟨g, 0, none⟩)) (hg : w.heap[g]? = some (.cells cs t fr))
    (hu : P.underlying ty = some d) (hd : (match d with | .struct _ | .array _ _ => true | _ => false) = true) (hi : (P.info? ty).map (·.size) = some cs.size) :
    (results fn tmps).run P w = .ok (.tuple #[.agg cs, tmps.getD u undef]) w := by
  have hp' : tmps[p]?.getD undef = .pointer (some ⟨g, 0, none⟩) := by simpa using hp
  simp [results, h, hp', asAddr, run_loadVar_row w g t ty cs fr d hg hu hd hi]
theorem Upd.setRowN {F : Nat → Prop} {a w : World} (h : Upd F a w) (y : Nat) (hy : F y ∨ a.heap.size ≤ y) (cs : Array Value) : Upd F a (w.setRow y cs) :=
  ⟨h.os, h.tape, h.output, by simpa using h.size, fun k hk q => (setRow_other w y k cs (fun e => by
    subst e
    rcases hy with hy | hy
    · exact q hy
    · omega)).trans (h.block k hk q)⟩
end Go.Proofs.Ytfdgamlakfkekaa

/- DERIVED. What a byte's type is. -/
namespace Go.Proofs.Ytfdgamlakfkekaa
open Go.RowKit

theorem infoB : (Try.prog.info? 5).map (fun i => (i.zero, i.size, i.bytes)) = some (some (.int .u8 0), 1, 1) := by kernel_rfl
theorem zeroB : (Value.int .u8 0).cells.toList = encB 0 := rfl
end Go.Proofs.Ytfdgamlakfkekaa

/- DERIVED. slices.Clone of bytes. -/
namespace Go.Proofs.Ytfdgamlakfkekaa
open Go.RowKit

set_option maxRecDepth 100000 in
set_option maxHeartbeats 1000000 in
theorem cloneB_any (v : Value) (xs : List Nat) {B : Nat} (w : World) (h : Vw encB w B v xs) (hB : B ≤ w.heap.size) (hl : xs.length ≤ 1000000000) :
    Calls Try.prog 94 #[v] w fun e w' => ∃ v' og', e = .returned v' ∧ SlG encB 5 w' v' og' xs ∧ (∀ g, og' = some g → w.heap.size ≤ g) ∧ Below w.heap.size w w' := by
  obtain ⟨i0, hi0, hz0, hz1, hz2'⟩ := info_parts infoB
  have hnil := Lib.run_eql_slice_nil (P := Try.prog) w 36 5
  obtain ⟨oa, cap, rfl, hc1, hc2⟩ := h.shape
  have H := Lib.hid h
  have HL := Lib.hid hl
  clear h hl
  generalize hn : xs.length = len at *
  have HN := Lib.hid hn
  cases oa with
  | none =>
    have hx : xs = [] := by
      obtain ⟨_, _, h1, _, _, h4⟩ := H.out
      cases h1
      rcases h4 with h4 | ⟨_, _, h5, _⟩
      · exact h4
      · cases h5
    subst hx
    clear hn
    go_enter Try.func94, Try.ntmps94
    go_wp2
    go_ret
    exact ⟨_, none, rfl, SlG.nil _, by simp, Below.refl _ _⟩
  | some ad =>
    clear hn
    go_enter Try.func94, Try.ntmps94
    go_wp2_with (refine wpList_pushV encB_len encB_one Try.underlying36 hi0 hz1 hz0 zeroB rfl (.tmp 5) (.tmp 6) rfl (by exact SlG.fresh0) (by exact H.out.below (((Below.refl _ _).alloc (Nat.le_refl _) _).mono hB)) rfl rfl (by rw [HN.out, hz2']; have := HL.out; simp; omega) (by rw [HN.out]; have := HL.out; simp; omega) ?_)
    intro W1 v1 og1 hs1 ho1 hu1
    have H1 := Lib.hid hs1
    have HG := Lib.hid (og_new (B := w.heap.size) (fun g e => by cases e; exact Nat.le_refl _) (by simp) ho1)
    have HB1 := Lib.hid (show Below w.heap.size w W1 from Upd.belowOf ((Below.refl _ _).alloc (Nat.le_refl _) _) hu1 (fun j hj e => by cases e; omega))
    clear hs1 ho1 hu1
    go_wp2
    go_ret
    exact ⟨_, og1, rfl, H1.out, HG.out, HB1.out⟩
end Go.Proofs.Ytfdgamlakfkekaa

/- DERIVED. Walk of slices.Replace at ranges: one element for at least one. -/
namespace Go.Proofs.Ytfdgamlakfkekaa
open Go.RowKit

theorem replace_rows {rs : List Rg} {r : Rg} {i k n cap : Nat} {zz : List Rg} (hik : i < k) (hkn : k < n) (hnc : n ≤ cap) (hrs : rs.length = cap)
    (hz : zz = splice (splice rs i [r]) (i + 1) (((splice rs i [r]).drop k).take (n - k)) ∨ ∃ c, zz = splice (splice (splice rs i [r]) (i + 1) (((splice rs i [r]).drop k).take (n - k))) (i + 1 + (n - k)) c ∧ i + 1 + (n - k) + c.length ≤ cap) :
    ∃ zs, zz = (rs.take i ++ r :: (rs.take n).drop k) ++ zs ∧ i + 1 + (n - k) + zs.length = cap := by
  have l1 : (splice rs i [r]).length = cap := by rw [splice_len _ _ _ (by simp; omega), hrs]
  have m1 : ((splice rs i [r]).drop k).take (n - k) = (rs.take n).drop k := by
    rw [splice_drop_ge (by simp; omega) (by simp; omega), List.drop_take]
  have ml : ((rs.take n).drop k).length = n - k := by rw [List.length_drop, List.length_take]; omega
  rw [m1] at hz
  have l2 : (splice (splice rs i [r]) (i + 1) ((rs.take n).drop k)).length = cap := by rw [splice_len _ _ _ (by rw [l1, ml]; omega), l1]
  have t2 : (splice (splice rs i [r]) (i + 1) ((rs.take n).drop k)).take (i + 1 + (n - k)) = rs.take i ++ [r] ++ (rs.take n).drop k := by
    have h1 := splice_take_end (L := splice rs i [r]) (c := (rs.take n).drop k) (o := i + 1) (by omega)
    have h2 := splice_take_end (L := rs) (c := [r]) (o := i) (by omega)
    rw [ml] at h1
    rw [h1]
    congr 1
  have t3 : zz.take (i + 1 + (n - k)) = rs.take i ++ [r] ++ (rs.take n).drop k ∧ zz.length = cap := by
    rcases hz with rfl | ⟨c, rfl, hc⟩
    · exact ⟨t2, l2⟩
    · exact ⟨by rw [splice_take_lt (Nat.le_refl _) (by rw [l2]; omega)]; exact t2, by rw [splice_len _ _ _ (by rw [l2]; exact hc), l2]⟩
  refine ⟨zz.drop (i + 1 + (n - k)), ?_, ?_⟩
  · have e : rs.take i ++ r :: (rs.take n).drop k = rs.take i ++ [r] ++ (rs.take n).drop k := by simp
    rw [e, ← t3.1, List.take_append_drop]
  · rw [List.length_drop, t3.2]; omega

set_option maxRecDepth 100000 in
set_option maxHeartbeats 400000 in
theorem replace_mid (g h : Nat) (rs : List Rg) (r : Rg) (i k n cap : Nat) (w : World) (hik : i < k) (hkn : k < n) (hnc : n ≤ cap) (hrs : rs.length = cap) (hg : RowR w g rs) (hh : RowR w h [r]) (_hgh : g ≠ h) (hm : cap ≤ 9223372036854775807) :
    Calls Try.prog 98 #[.slice (some ⟨g, 0, none⟩) n cap, .int .i64 i, .int .i64 k, .slice (some ⟨h, 0, none⟩) 1 1] w
      fun e w' => e = .returned (.slice (some ⟨g, 0, none⟩) (i + 1 + (n - k)) cap) ∧ Head w' g (rs.take i ++ r :: (rs.take n).drop k) cap ∧ Upd (fun k => k = g) w w' := by
  obtain ⟨i0, hi, hz0, hz1, hz2⟩ := info_parts infoR
  have HG := Lib.hid hg
  have HH := Lib.hid hh
  have HN := Lib.hid hrs
  clear hg hh hrs
  go_enter Try.func98, Try.ntmps98
  go_wp2_with fail
  go_quiet (fail)
  go_wp2_with (refine wpList_copy_at encR_len encR_one Try.underlying37 hi hz1 rfl (.tmp 95) (.tmp 96) 37 rfl (by exact HG.out) (by exact HH.out) i 0 1 rfl rfl rfl rfl ?c1 ?c2 ?c3 ?_)
  case c1 => omega
  case c2 => rw [HN.out]; omega
  case c3 => exact Nat.le_refl _
  intro W1 hW1 hU1
  have H1 := Lib.hid hW1
  have U1 := Lib.hid hU1
  have L1 := Lib.hid (show (splice rs i [r]).length = cap by rw [splice_len _ _ _ (by rw [HN.out]; simp; omega), HN.out])
  clear hW1 hU1
  go_wp2_with fail
  have f1 : IntKind.i64.wrap ((i : Int) + 1) = (i : Int) + 1 := IntWalk.i64_in _ (by omega)
  have f2 : ((i : Int) + 1).toNat = i + 1 := by omega
  have f3 : (0 : Int) ≤ (i : Int) + 1 := by omega
  have f4 : (i : Int) + 1 ≤ (i : Int) + 1 + ((n - k : Nat) : Int) := by omega
  have f5 : ¬ cap = i + 1 := by omega
  have f6 : ¬ cap = k := by omega
  have f7 : k ≤ n := by omega
  go_still_tail 9, (by kernel_rfl)
  change wpList _ _ _ _ _ W1.drew
  clear f1 f2 f3 f4 f5 f6 f7
  go_wp2_with (refine wpList_copy_at encR_len encR_one Try.underlying37 hi hz1 rfl (.tmp 103) (.tmp 106) 37 rfl (by exact H1.out) (by exact H1.out) (i + 1) k (n - k) rfl rfl rfl rfl ?d1 ?d2 ?d3 ?_)
  case d2 => rw [L1.out]; omega
  case d3 => rw [L1.out]; omega
  intro W2 hW2 hU2
  have H2 := Lib.hid hW2
  have U2 := Lib.hid hU2
  have L2 := Lib.hid (show (splice (splice rs i [r]) (i + 1) (((splice rs i [r]).drop k).take (n - k))).length = cap by rw [splice_len _ _ _ (by rw [L1.out, List.length_take, List.length_drop, L1.out]; omega), L1.out])
  clear hW2 hU2
  by_cases hx : i + 1 + (n - k) < cap
  · go_wp2_with (refine wpList_clear_at encR_len encR_one Try.underlying37 hi hz0 zeroR rfl (.tmp 110) rfl (by exact H2.out) (i + 1 + (n - k)) (n - (i + 1 + (n - k))) rfl rfl ?e1 ?_)
    case e1 => rw [L2.out]; omega
    intro W3 hW3 hU3
    have H3 := Lib.hid hW3
    have U3 := Lib.hid hU3
    clear hW3 hU3
    go_wp2
    go_ret
    refine ⟨rfl, ?_, ?_⟩
    · obtain ⟨zs, hzs, hlen⟩ := replace_rows (zz := splice (splice (splice rs i [r]) (i + 1) (((splice rs i [r]).drop k).take (n - k))) (i + 1 + (n - k)) (List.replicate (n - (i + 1 + (n - k))) (0, 0))) hik hkn hnc HN.out (.inr ⟨_, rfl, by simp; omega⟩)
      exact ⟨zs, by rw [← hzs]; exact H3.out, by simp only [List.length_append, List.length_take, List.length_drop, List.length_cons, HN.out]; omega⟩
    · exact (((Upd.refl _ w).drewN nq).then U1.out).drew.then (U2.out.then U3.out)
  · have hcn : n = cap := by omega
    have hk1 : k = i + 1 := by omega
    have HC := Lib.hid hcn
    have HK := Lib.hid hk1
    clear hcn hk1
    go_wp2_with (refine wpList_clear_zero Try.underlying37 rfl (.tmp 110) rfl rfl ?e2 ?_)
    case e2 => have := HC.out; have := HK.out; omega
    go_wp2
    have hcap : i + 1 + (n - k) = cap := by omega
    go_ret
    refine ⟨rfl, ?_, ?_⟩
    · rw [hcap]
      obtain ⟨zs, hzs, hlen⟩ := replace_rows (zz := splice (splice rs i [r]) (i + 1) (((splice rs i [r]).drop k).take (n - k))) hik hkn hnc HN.out (.inl rfl)
      exact ⟨zs, by rw [← hzs]; exact H2.out, by simp only [List.length_append, List.length_take, List.length_drop, List.length_cons, HN.out]; omega⟩
    · exact (((Upd.refl _ w).drewN nq).then U1.out).drew.then U2.out
end Go.Proofs.Ytfdgamlakfkekaa

/- DERIVED. Walk of slices.Replace at ranges: one element for at least one, up to the end. -/
namespace Go.Proofs.Ytfdgamlakfkekaa
open Go.RowKit

theorem replace_rows2 {rs : List Rg} {r : Rg} {i n cap : Nat} {zz : List Rg} (hin : i < n) (hnc : n ≤ cap) (hrs : rs.length = cap)
    (hz : zz = splice rs i [r] ∨ ∃ c, zz = splice (splice rs i [r]) (i + 1) c ∧ i + 1 + c.length ≤ cap) :
    ∃ zs, zz = (rs.take i ++ [r]) ++ zs ∧ i + 1 + zs.length = cap := by
  have l1 : (splice rs i [r]).length = cap := by rw [splice_len _ _ _ (by simp; omega), hrs]
  have t1 : (splice rs i [r]).take (i + 1) = rs.take i ++ [r] := splice_take_end (L := rs) (c := [r]) (o := i) (by omega)
  have t3 : zz.take (i + 1) = rs.take i ++ [r] ∧ zz.length = cap := by
    rcases hz with rfl | ⟨c, rfl, hc⟩
    · exact ⟨t1, l1⟩
    · exact ⟨by rw [splice_take_lt (Nat.le_refl _) (by rw [l1]; omega)]; exact t1, by rw [splice_len _ _ _ (by rw [l1]; exact hc), l1]⟩
  refine ⟨zz.drop (i + 1), ?_, ?_⟩
  · rw [← t3.1, List.take_append_drop]
  · rw [List.length_drop, t3.2]; omega

set_option maxRecDepth 100000 in
set_option maxHeartbeats 400000 in
theorem replace_end (g h : Nat) (rs : List Rg) (r : Rg) (i n cap : Nat) (w : World) (hin : i < n) (hnc : n ≤ cap) (hrs : rs.length = cap) (hg : RowR w g rs) (hh : RowR w h [r]) (_hgh : g ≠ h) (_hm : cap ≤ 9223372036854775807) :
    Calls Try.prog 98 #[.slice (some ⟨g, 0, none⟩) n cap, .int .i64 i, .int .i64 n, .slice (some ⟨h, 0, none⟩) 1 1] w
      fun e w' => e = .returned (.slice (some ⟨g, 0, none⟩) (i + 1) cap) ∧ Head w' g (rs.take i ++ [r]) cap ∧ Upd (fun k => k = g) w w' := by
  obtain ⟨i0, hi, hz0, hz1, hz2⟩ := info_parts infoR
  have HG := Lib.hid hg
  have HH := Lib.hid hh
  have HN := Lib.hid hrs
  clear hg hh hrs
  go_enter Try.func98, Try.ntmps98
  go_wp2_with (refine wpList_append_at encR_len encR_one Try.underlying37 hi hz1 rfl (.tmp 32) (.tmp 33) rfl (by exact HG.out) (by exact HH.out) 0 0 rfl rfl rfl rfl ?c1 ?c2 ?c3 ?_)
  case c1 => omega
  case c2 => rw [HN.out]; omega
  case c3 => exact Nat.le_refl _
  intro W1 hW1 hU1
  have H1 := Lib.hid (show Row encR W1 130 g (splice rs i [r]) by simpa using hW1)
  have U1 := Lib.hid hU1
  have L1 := Lib.hid (show (splice rs i [r]).length = cap by rw [splice_len _ _ _ (by rw [HN.out]; simp; omega), HN.out])
  clear hW1 hU1
  by_cases hx : i + 1 < n
  · go_wp2_with (refine wpList_clear_at encR_len encR_one Try.underlying37 hi hz0 zeroR rfl (.tmp 43) rfl (by exact H1.out) (i + 1) (n - (i + 1)) rfl rfl ?e1 ?_)
    case e1 => rw [L1.out]; omega
    intro W3 hW3 hU3
    have H3 := Lib.hid hW3
    have U3 := Lib.hid hU3
    clear hW3 hU3
    go_wp2
    go_ret
    refine ⟨rfl, ?_, U1.out.then U3.out⟩
    obtain ⟨zs, hzs, hlen⟩ := replace_rows2 (zz := splice (splice rs i [r]) (i + 1) (List.replicate (n - (i + 1)) (0, 0))) hin hnc HN.out (.inr ⟨_, rfl, by simp; omega⟩)
    exact ⟨zs, by rw [← hzs]; exact H3.out, by simp only [List.length_append, List.length_take, List.length_cons, List.length_nil, HN.out]; omega⟩
  · go_wp2
    go_ret
    refine ⟨rfl, ?_, U1.out⟩
    obtain ⟨zs, hzs, hlen⟩ := replace_rows2 (zz := splice rs i [r]) hin hnc HN.out (.inl rfl)
    exact ⟨zs, by rw [← hzs]; exact H1.out, by simp only [List.length_append, List.length_take, List.length_cons, List.length_nil, HN.out]; omega⟩
end Go.Proofs.Ytfdgamlakfkekaa

/- DERIVED. Walk of slices.Insert at ranges: one element. -/
namespace Go.Proofs.Ytfdgamlakfkekaa
open Go.RowKit

theorem insert_rows {rs : List Rg} {r : Rg} {i n cap : Nat} (hin : i ≤ n) (hnc : n < cap) (hrs : rs.length = cap) :
    ∃ zs, splice (splice rs (i + 1) ((rs.drop i).take (n - i))) i [r] = (rs.take i ++ r :: (rs.take n).drop i) ++ zs ∧ n + 1 + zs.length = cap := by
  have ml : ((rs.drop i).take (n - i)).length = n - i := by rw [List.length_take, List.length_drop]; omega
  have l1 : (splice rs (i + 1) ((rs.drop i).take (n - i))).length = cap := by rw [splice_len _ _ _ (by rw [ml]; omega), hrs]
  have l2 : (splice (splice rs (i + 1) ((rs.drop i).take (n - i))) i [r]).length = cap := by rw [splice_len _ _ _ (by rw [l1]; simp; omega), l1]
  have t1 : (splice rs (i + 1) ((rs.drop i).take (n - i))).take (n + 1) = rs.take (i + 1) ++ (rs.drop i).take (n - i) := by
    have := splice_take_end (L := rs) (c := (rs.drop i).take (n - i)) (o := i + 1) (by omega)
    rw [ml, show i + 1 + (n - i) = n + 1 by omega] at this
    exact this
  have t2 : (splice (splice rs (i + 1) ((rs.drop i).take (n - i))) i [r]).take (n + 1) = rs.take i ++ r :: (rs.take n).drop i := by
    have e : splice (splice rs (i + 1) ((rs.drop i).take (n - i))) i [r] = rs.take i ++ ([r] ++ (splice rs (i + 1) ((rs.drop i).take (n - i))).drop (i + 1)) := by
      have h0 : (splice rs (i + 1) ((rs.drop i).take (n - i))).take i = rs.take i := splice_take_lt (by omega) (by omega)
      unfold splice at h0 ⊢
      rw [h0]
      rfl
    have e2 : (splice rs (i + 1) ((rs.drop i).take (n - i))).drop (i + 1) = (rs.drop i).take (n - i) ++ rs.drop (n + 1) := by
      unfold splice
      rw [List.drop_append, List.drop_of_length_le (by rw [List.length_take]; omega), List.nil_append, show i + 1 - (rs.take (i + 1)).length = 0 by rw [List.length_take]; omega, List.drop_zero, ml, show i + 1 + (n - i) = n + 1 by omega]
    rw [e, e2, List.take_append, List.length_take, Nat.min_eq_left (by omega), List.take_take, Nat.min_eq_right (by omega), show n + 1 - i = (n - i) + 1 by omega]
    simp only [List.cons_append, List.nil_append, List.take_succ_cons]
    rw [List.take_append_of_le_length (by rw [ml]; omega), List.take_take, Nat.min_self, List.drop_take]
  refine ⟨(splice (splice rs (i + 1) ((rs.drop i).take (n - i))) i [r]).drop (n + 1), ?_, ?_⟩
  · rw [← t2, List.take_append_drop]
  · rw [List.length_drop, l2]; omega

theorem sizeR (w : World) : (Go.sizeOf 130).run Try.prog w = .ok 2 w := by
  obtain ⟨i0, hi, hz0, hz1, hz2⟩ := info_parts infoR
  simp [Go.sizeOf, typeInfo, hi, hz1]

theorem overlaps_not (g h : Nat) (rs : List Rg) (r : Rg) (o lb cb : Nat) (w : World) (hrs : 0 < rs.length) (hg : RowR w g rs) (hh : RowR w h [r]) (hgh : g ≠ h) :
    (callFunc 109 #[.slice (some ⟨h, 0, none⟩) 1 1, .slice (some ⟨g, o, none⟩) lb cb]).run Try.prog w = .ok (.value (.bool false)) w := by
  rw [run_callFunc_extern Try.func109 (by kernel_rfl) (by kernel_rfl) (by kernel_rfl) (e := Extern.SlicesOverlaps.overlaps #[37, 37] #[4]) (by kernel_rfl),
    Lib.run_overlaps_apart w 37 4 130 Try.underlying37 2 sizeR ⟨h, 0, none⟩ ⟨g, o, none⟩ 1 1 lb cb (fun e => hgh e.symm) 130 130 2 (rs.length * 2)
      (by simp [World.shape?, show w.heap[h]? = _ from hh, flat, encR]) (by simp [World.shape?, show w.heap[g]? = _ from hg, flat_length encR_len]) (by omega) (hh.free 0) (hh.free 2)]
  rfl

set_option maxRecDepth 100000 in
set_option maxHeartbeats 400000 in
theorem insert_shift (g h : Nat) (rs : List Rg) (r : Rg) (i n cap : Nat) (w : World) (hin : i < n) (hnc : n < cap) (hrs : rs.length = cap) (hg : RowR w g rs) (hh : RowR w h [r]) (hgh : g ≠ h) (hm : cap ≤ 9223372036854775807) :
    Calls Try.prog 108 #[.slice (some ⟨g, 0, none⟩) n cap, .int .i64 i, .slice (some ⟨h, 0, none⟩) 1 1] w
      fun e w' => e = .returned (.slice (some ⟨g, 0, none⟩) (n + 1) cap) ∧ Head w' g (rs.take i ++ r :: (rs.take n).drop i) cap ∧ Upd (fun k => k = g) w w' := by
  obtain ⟨i0, hi, hz0, hz1, hz2⟩ := info_parts infoR
  have hov := fun o lb cb => overlaps_not g h rs r o lb cb w (by omega) hg hh hgh
  have HG := Lib.hid hg
  have HH := Lib.hid hh
  have HN := Lib.hid hrs
  clear hg hh hrs
  go_enter Try.func108, Try.ntmps108
  go_wp2_with (simp only [hov])
  go_wp2_with fail
  clear hov
  have f1 : IntKind.i64.wrap ((i : Int) + 1) = (i : Int) + 1 := IntWalk.i64_in _ (by omega)
  have f2 : ((i : Int) + 1).toNat = i + 1 := by omega
  have f3 : (0 : Int) ≤ (i : Int) + 1 := by omega
  have f4 : (i : Int) + 1 ≤ (n : Int) + 1 := by omega
  have f5 : ¬ cap = i + 1 := by omega
  have f6 : ¬ cap = i := by omega
  have f7 : i ≤ n + 1 := by omega
  have f8 : i ≤ n := by omega
  have f9 : (i : Int) ≤ (n : Int) + 1 := by omega
  go_still_tail 8, (by kernel_rfl)
  change wpList _ _ _ _ _ w.drew
  clear f1 f2 f3 f4 f5 f6 f7 f8 f9
  go_wp2_with (refine wpList_copy_at encR_len encR_one Try.underlying37 hi hz1 rfl (.tmp 73) (.tmp 76) 37 rfl (by exact HG.out) (by exact HG.out) (i + 1) i (n - i) rfl rfl rfl rfl ?d1 ?d2 ?d3 ?_)
  case d1 => omega
  case d2 => rw [HN.out]; omega
  case d3 => rw [HN.out]; omega
  intro W1 hW1 hU1
  have H1 := Lib.hid hW1
  have U1 := Lib.hid hU1
  have HH1 := Lib.hid (hU1.keeps HH.out (fun e => hgh e.symm))
  have L1 := Lib.hid (show (splice rs (i + 1) ((rs.drop i).take (n - i))).length = cap by rw [splice_len _ _ _ (by rw [HN.out, List.length_take, List.length_drop, HN.out]; omega), HN.out])
  clear hW1 hU1
  go_wp2_with (refine wpList_copy_at encR_len encR_one Try.underlying37 hi hz1 rfl (.tmp 80) (.tmp 81) 37 rfl (by exact H1.out) (ss := [r]) (by exact HH1.out) i 0 1 rfl rfl rfl rfl ?e1 ?e2 ?e3 ?_)
  case e1 => omega
  case e2 => rw [L1.out]; omega
  case e3 => exact Nat.le_refl _
  intro W2 hW2 hU2
  have H2 := Lib.hid (show Row encR W2 130 g (splice (splice rs (i + 1) ((rs.drop i).take (n - i))) i [r]) by simpa using hW2)
  have U2 := Lib.hid hU2
  clear hW2 hU2
  go_wp2
  go_ret
  refine ⟨rfl, ?_, ((Upd.refl _ w).drew.then U1.out).then U2.out⟩
  obtain ⟨zs, hzs, hlen⟩ := insert_rows (r := r) (Nat.le_of_lt hin) hnc HN.out
  exact ⟨zs, by rw [← hzs]; exact H2.out, by simp only [List.length_append, List.length_take, List.length_drop, List.length_cons, HN.out]; omega⟩

set_option maxRecDepth 100000 in
set_option maxHeartbeats 400000 in
theorem insert_end (g h : Nat) (rs : List Rg) (r : Rg) (n cap : Nat) (w : World) (hnc : n < cap) (hrs : rs.length = cap) (hg : RowR w g rs) (hh : RowR w h [r]) (hm : cap ≤ 9223372036854775807) :
    Calls Try.prog 108 #[.slice (some ⟨g, 0, none⟩) n cap, .int .i64 n, .slice (some ⟨h, 0, none⟩) 1 1] w
      fun e w' => e = .returned (.slice (some ⟨g, 0, none⟩) (n + 1) cap) ∧ Head w' g (rs.take n ++ [r]) cap ∧ Upd (fun k => k = g) w w' := by
  obtain ⟨i0, hi, hz0, hz1, hz2⟩ := info_parts infoR
  have HG := Lib.hid hg
  have HH := Lib.hid hh
  have HN := Lib.hid hrs
  clear hg hh hrs
  go_enter Try.func108, Try.ntmps108
  go_wp2_with (refine wpList_append_at encR_len encR_one Try.underlying37 hi hz1 rfl (.tmp 23) (.tmp 24) rfl (by exact HG.out) (ss := [r]) (by exact HH.out) 0 0 rfl rfl rfl rfl ?c1 ?c2 ?c3 ?_)
  case c1 => omega
  case c2 => rw [HN.out]; omega
  case c3 => exact Nat.le_refl _
  intro W1 hW1 hU1
  have H1 := Lib.hid (show Row encR W1 130 g (splice rs n [r]) by simpa using hW1)
  have U1 := Lib.hid hU1
  clear hW1 hU1
  go_wp2
  go_ret
  refine ⟨rfl, ?_, U1.out⟩
  refine ⟨rs.drop (n + 1), ?_, by simp only [List.length_append, List.length_take, List.length_drop, List.length_cons, List.length_nil, HN.out]; omega⟩
  have e : splice rs n [r] = rs.take n ++ [r] ++ rs.drop (n + 1) := by simp [splice]
  rw [← e]
  exact H1.out

/-- A new row g' that begins with xs. -/
def Fresh (w w' : World) (xs : List Rg) (e : Ending) : Prop := ∃ cap, e = .returned (.slice (some ⟨w.heap.size, 0, none⟩) xs.length cap) ∧ Head w' w.heap.size xs cap ∧ cap ≤ 9223372036854775807 ∧ Below w.heap.size w w'

set_option maxRecDepth 100000 in
set_option maxHeartbeats 400000 in
theorem insert_end_grow (g h : Nat) (rs : List Rg) (r : Rg) (n : Nat) (w : World) (hrs : rs.length = n) (hg : RowR w g rs) (hh : RowR w h [r]) (hm : (n + 1) * 16 ≤ 140737488355328) :
    Calls Try.prog 108 #[.slice (some ⟨g, 0, none⟩) n n, .int .i64 n, .slice (some ⟨h, 0, none⟩) 1 1] w
      fun e w' => Fresh w w' (rs ++ [r]) e := by
  obtain ⟨i0, hi, hz0, hz1, hz2⟩ := info_parts infoR
  have HG := Lib.hid hg
  have HH := Lib.hid hh
  have HN := Lib.hid hrs
  clear hg hh hrs
  go_enter Try.func108, Try.ntmps108
  go_wp2_with (refine wpList_append_fresh encR_len Try.underlying37 hi hz1 hz0 zeroR rfl (.tmp 23) (.tmp 24) rfl (by exact HG.out) (ss := [r]) (by exact HH.out) 0 0 rfl rfl rfl rfl ?c1 ?c2 ?c3 ?c4 ?c5 ?c6 ?_)
  case c1 => omega
  case c2 => rw [HN.out]; omega
  case c3 => exact Nat.le_refl _
  case c4 => omega
  case c5 => omega
  case c6 => rw [hz2]; omega
  intro W1 cap hW1 hc1 hc2 hB1 hsz
  have H1 := Lib.hid (show RowR W1 w.heap.size ((rs ++ [r]) ++ List.replicate (cap - (n + 1)) (0, 0)) by
    have e : rs.take n = rs := List.take_of_length_le (by rw [HN.out]; omega)
    simpa [e] using hW1)
  have B1 := Lib.hid hB1
  have C1 := Lib.hid (show n + 1 ≤ cap ∧ cap ≤ 9223372036854775807 from ⟨hc1, hc2⟩)
  clear hW1 hc1 hc2 hB1 hsz
  go_wp2
  go_ret
  have hl : (rs ++ [r]).length = n + 1 := by simp [HN.out]
  exact ⟨cap, by rw [hl]; rfl, ⟨_, H1.out, by rw [hl, List.length_replicate]; have := C1.out; omega⟩, C1.out.2, B1.out⟩

set_option maxRecDepth 100000 in
set_option maxHeartbeats 400000 in
theorem insert_nil (h : Nat) (r : Rg) (w : World) (hh : RowR w h [r]) :
    Calls Try.prog 108 #[.slice none 0 0, .int .i64 0, .slice (some ⟨h, 0, none⟩) 1 1] w
      fun e w' => Fresh w w' [r] e := by
  obtain ⟨i0, hi, hz0, hz1, hz2⟩ := info_parts infoR
  have HH := Lib.hid hh
  clear hh
  go_enter Try.func108, Try.ntmps108
  go_wp2_with (refine wpList_append_nil encR_len Try.underlying37 hi hz1 hz0 zeroR rfl (.tmp 23) (.tmp 24) rfl (ss := [r]) (by exact HH.out) 0 rfl rfl rfl ?c1 ?c2 ?c3 ?c4 ?_)
  case c1 => omega
  case c2 => exact Nat.le_refl _
  case c3 => omega
  case c4 => rw [hz2]; omega
  intro W1 cap hW1 hc1 hc2 hB1 hsz
  have H1 := Lib.hid (show RowR W1 w.heap.size ([r] ++ List.replicate (cap - 1) (0, 0)) by simpa using hW1)
  have B1 := Lib.hid hB1
  have C1 := Lib.hid (show 1 ≤ cap ∧ cap ≤ 9223372036854775807 from ⟨hc1, hc2⟩)
  clear hW1 hc1 hc2 hB1 hsz
  go_wp2
  go_ret
  exact ⟨cap, rfl, ⟨_, H1.out, by rw [List.length_replicate]; have := C1.out; simp; omega⟩, C1.out.2, B1.out⟩

theorem grow_rows {rs Z : List Rg} {r : Rg} {i n cap : Nat} {z : Rg} (hin : i < n) (hnc : n + 1 ≤ cap) (hrs : rs.length = n) (hZ : Z = rs.take i ++ List.replicate (n + 1 - i + (cap - (n + 1))) z) :
    ∃ zs, splice (splice Z i [r]) (i + 1) ((rs.drop i).take (n - i)) = (rs.take i ++ r :: rs.drop i) ++ zs ∧ n + 1 + zs.length = cap := by
  have l0 : Z.length = cap := by rw [hZ]; simp; omega
  have e1 : (rs.drop i).take (n - i) = rs.drop i := List.take_of_length_le (by rw [List.length_drop]; omega)
  rw [e1]
  have ml : (rs.drop i).length = n - i := by rw [List.length_drop]; omega
  have l1 : (splice Z i [r]).length = cap := by rw [splice_len _ _ _ (by rw [l0]; simp; omega), l0]
  have l2 : (splice (splice Z i [r]) (i + 1) (rs.drop i)).length = cap := by rw [splice_len _ _ _ (by rw [l1, ml]; omega), l1]
  have t0 : Z.take i = rs.take i := by
    rw [hZ, List.take_append_of_le_length (by rw [List.length_take]; omega), List.take_take, Nat.min_self]
  have t1 : (splice Z i [r]).take (i + 1) = rs.take i ++ [r] := by
    have := splice_take_end (L := Z) (c := [r]) (o := i) (by rw [l0]; omega)
    rw [t0] at this
    exact this
  have t2 : (splice (splice Z i [r]) (i + 1) (rs.drop i)).take (n + 1) = rs.take i ++ r :: rs.drop i := by
    have := splice_take_end (L := splice Z i [r]) (c := rs.drop i) (o := i + 1) (by rw [l1]; omega)
    rw [ml, show i + 1 + (n - i) = n + 1 by omega, t1] at this
    rw [this]
    simp
  refine ⟨(splice (splice Z i [r]) (i + 1) (rs.drop i)).drop (n + 1), ?_, ?_⟩
  · rw [← t2, List.take_append_drop]
  · rw [List.length_drop, l2]; omega

set_option maxRecDepth 100000 in
set_option maxHeartbeats 400000 in
theorem insert_grow (g h : Nat) (rs : List Rg) (r : Rg) (i n : Nat) (w : World) (hin : i < n) (hrs : rs.length = n) (hg : RowR w g rs) (hh : RowR w h [r]) (hm : (n + 1) * 16 ≤ 140737488355328) :
    Calls Try.prog 108 #[.slice (some ⟨g, 0, none⟩) n n, .int .i64 i, .slice (some ⟨h, 0, none⟩) 1 1] w
      fun e w' => Fresh w w' (rs.take i ++ r :: rs.drop i) e := by
  obtain ⟨i0, hi, hz0, hz1, hz2⟩ := info_parts infoR
  have HG := Lib.hid hg
  have HH := Lib.hid hh
  have HN := Lib.hid hrs
  clear hg hh hrs
  go_enter Try.func108, Try.ntmps108
  go_wp2_with (refine wpList_append_zeros encR_len (by decide) Try.underlying37 Try.underlying3 hi hz1 hz0 zeroR rfl (.tmp 34) (.tmp 39) rfl (by exact HG.out) 0 (m := n + 1 - i) rfl rfl ?c0 rfl ?c1 ?c2 ?c3 ?c4 ?c5 ?c6 ?_)
  case c0 => omega
  case c1 => omega
  case c2 => rw [HN.out]; omega
  case c3 => omega
  case c4 => omega
  case c5 => omega
  case c6 => rw [hz2]; omega
  intro W1 cap hW1 hc1 hc2 hB1 hsz
  rw [show i + (n + 1 - i) = n + 1 by omega] at hW1 hc1
  obtain ⟨Z, hZ⟩ : ∃ Z, Z = rs.take i ++ List.replicate (n + 1 - i + (cap - (n + 1))) ((0, 0) : Rg) := ⟨_, rfl⟩
  rw [← hZ] at hW1
  have H1 := Lib.hid hW1
  have HZ := Lib.hid hZ
  have B1 := Lib.hid hB1
  have C1 := Lib.hid (show n + 1 ≤ cap ∧ cap ≤ 9223372036854775807 from ⟨hc1, hc2⟩)
  have L1 := Lib.hid (show Z.length = cap by rw [hZ]; simp [HN.out]; omega)
  have HG1 := Lib.hid (below_keeps hB1 HG.out (heap_lt HG.out))
  have HH1 := Lib.hid (below_keeps hB1 HH.out (heap_lt HH.out))
  have GS := Lib.hid (show g ≠ w.heap.size ∧ h ≠ w.heap.size from ⟨Nat.ne_of_lt (heap_lt HG.out), Nat.ne_of_lt (heap_lt HH.out)⟩)
  have SZ := Lib.hid hsz
  clear hW1 hB1 hsz hZ
  rw [show i + (n + 1 - i) = n + 1 by omega]
  go_wp2_with (refine wpList_copy_at encR_len encR_one Try.underlying37 hi hz1 rfl (.tmp 43) (.tmp 44) 37 rfl (by exact H1.out) (ss := [r]) (by exact HH1.out) i 0 1 rfl rfl rfl rfl ?d1 ?d2 ?d3 ?_)
  case d1 => omega
  case d2 => rw [L1.out]; omega
  case d3 => exact Nat.le_refl _
  intro W2 hW2 hU2
  have H2 := Lib.hid (show RowR W2 w.heap.size (splice Z i [r]) from hW2)
  have U2 := Lib.hid hU2
  have HG2 := Lib.hid (hU2.keeps HG1.out GS.out.1)
  have L2 := Lib.hid (show (splice Z i [r]).length = cap by rw [splice_len _ _ _ (by rw [L1.out]; simp; omega), L1.out])
  clear hW2 hU2 HG1 HH1 H1
  go_wp2_with fail
  have f1 : IntKind.i64.wrap ((i : Int) + 1) = (i : Int) + 1 := IntWalk.i64_in _ (by omega)
  have f2 : ((i : Int) + 1).toNat = i + 1 := by omega
  have f3 : (0 : Int) ≤ (i : Int) + 1 := by omega
  have f4 : (i : Int) + 1 ≤ (n : Int) + 1 := by omega
  have f5 : ¬ cap = i + 1 := by omega
  have f6 : ¬ n = i := by omega
  have f8 : i ≤ n := by omega
  go_still_tail 8, (by kernel_rfl)
  change wpList _ _ _ _ _ W2.drew
  clear f1 f2 f3 f4 f5 f6 f8
  go_wp2_with (refine wpList_copy_at encR_len encR_one Try.underlying37 hi hz1 rfl (.tmp 50) (.tmp 53) 37 rfl (by exact H2.out) (ss := rs) (by exact HG2.out) (i + 1) i (n - i) rfl rfl rfl rfl ?e1 ?e2 ?e3 ?_)
  case e2 => rw [L2.out]; omega
  case e3 => rw [HN.out]; omega
  intro W3 hW3 hU3
  have H3 := Lib.hid hW3
  have U3 := Lib.hid hU3
  clear hW3 hU3
  go_wp2
  go_ret
  obtain ⟨zs, hzs, hlen⟩ := grow_rows (r := r) hin C1.out.1 HN.out HZ.out
  have hl : (rs.take i ++ r :: rs.drop i).length = n + 1 := by simp [HN.out]; omega
  exact ⟨cap, by rw [hl]; rfl, ⟨zs, by rw [← hzs]; exact H3.out, by rw [hl]; exact hlen⟩, C1.out.2,
    (Upd.onto ((Upd.onto B1.out U2.out (by rw [SZ.out]; omega) (by intro j h1 h2; omega)).drew) U3.out (Nat.le_trans (by rw [SZ.out]; omega) U2.out.size) (by intro j h1 h2; omega))⟩
end Go.Proofs.Ytfdgamlakfkekaa
