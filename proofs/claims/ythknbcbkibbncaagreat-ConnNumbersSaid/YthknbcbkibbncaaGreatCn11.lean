/- DERIVED. Words for what a call may turn in memory: outside the named blocks, and of what was there, all is as it was. -/
import Derived.WalkKit
import Derived.WalkSpells
import Derived.WalkLawsBesides
import Derived.Lib.Hide
import Derived.Deep.QuietTactic
import Derived.BigQuiet
import Derived.StillTailTactics
import Derived.Laws.CopyRow
import Derived.Laws.CopyOwn
import Derived.Laws.Append
import Derived.Lib.SliceRun
import Derived.Lib.AppendZeros
import Derived.Test.YthknbcbkibbncaaGreatRows
import Derived.Deep.RegionLaw
import Derived.Deep.DeepMust
import Derived.Lib.Overlaps
import Derived.Test.YthknbcbkibbncaaGreatCn8
import Derived.Test.YthknbcbkibbncaaGreatCn9
set_option linter.all false
namespace Go.Proofs.YthknbcbkibbncaaGreat
open Go.RowKit

structure Upd (F : Nat → Prop) (w w' : World) : Prop where
  os : w'.os = w.os
  tape : w'.tape = w.tape
  output : w'.output = w.output
  size : w.heap.size ≤ w'.heap.size
  block : ∀ k, k < w.heap.size → ¬ F k → w'.heap[k]? = w.heap[k]?

theorem Upd.refl (F : Nat → Prop) (w : World) : Upd F w w := ⟨rfl, rfl, rfl, Nat.le_refl _, fun _ _ _ => rfl⟩
theorem Upd.trans {F G H : Nat → Prop} {a b c : World} (h : Upd F a b) (k : Upd G b c) (hF : ∀ i, i < a.heap.size → F i → H i) (hG : ∀ i, i < a.heap.size → G i → H i) : Upd H a c :=
  ⟨k.os.trans h.os, k.tape.trans h.tape, k.output.trans h.output, Nat.le_trans h.size k.size, fun i hi hn =>
    (k.block i (Nat.lt_of_lt_of_le hi h.size) (fun g => hn (hG i hi g))).trans (h.block i hi (fun f => hn (hF i hi f)))⟩
theorem Upd.mono {F G : Nat → Prop} {a b : World} (h : Upd F a b) (hF : ∀ i, i < a.heap.size → F i → G i) : Upd G a b := h.trans (Upd.refl G b) hF (fun _ _ g => g)
theorem Upd.then {F : Nat → Prop} {a b c : World} (h : Upd F a b) (k : Upd F b c) : Upd F a c := h.trans k (fun _ _ x => x) (fun _ _ x => x)
theorem Upd.drewN {F : Nat → Prop} {a b : World} (h : Upd F a b) (n : Nat) : Upd F a (b.drewN n) := ⟨h.os, h.tape, h.output, h.size, h.block⟩
theorem Upd.drew {F : Nat → Prop} {a b : World} (h : Upd F a b) : Upd F a b.drew := ⟨h.os, h.tape, h.output, h.size, h.block⟩
theorem Upd.setCell {F : Nat → Prop} {a b : World} (h : Upd F a b) (p : Addr) (hp : F p.block ∨ a.heap.size ≤ p.block) (u : Value) : Upd F a (b.setCell p u) :=
  h.trans (G := fun k => k = p.block) ⟨rfl, rfl, rfl, by simp [World.setCell], fun k _ hn => Below.heap_setCell _ _ _ _ hn⟩ (fun _ _ x => x)
    (fun i hi e => by subst e; rcases hp with hp | hp; exact hp; omega)
theorem Upd.alloc {F : Nat → Prop} {a b : World} (h : Upd F a b) (o : Obj) : Upd F a (b.alloc o) :=
  h.trans (G := fun _ => False) ⟨rfl, rfl, rfl, by simp, fun k hk _ => Below.heap_alloc _ _ _ hk⟩ (fun _ _ x => x) (fun _ _ x => x.elim)
theorem Upd.below {B : Nat} {a b : World} (h : Below B a b) : Upd (fun k => B ≤ k) a b := ⟨h.os, h.tape, h.output, h.size, fun k _ hn => h.block k (by omega)⟩
theorem Upd.toBelow {F : Nat → Prop} {a b : World} (h : Upd F a b) (hF : ∀ k, k < a.heap.size → ¬ F k) : Below a.heap.size a b :=
  ⟨h.os, h.tape, h.output, h.size, fun k hk => h.block k hk (hF k hk)⟩
theorem Upd.belowOf {F : Nat → Prop} {W a b : World} (hW : Below W.heap.size W a) (h : Upd F a b) (hF : ∀ k, k < W.heap.size → ¬ F k) : Below W.heap.size W b :=
  hW.trans ⟨h.os, h.tape, h.output, h.size, fun k hk => h.block k (Nat.lt_of_lt_of_le hk hW.size) (hF k hk)⟩

theorem Upd.onto {B : Nat} {F : Nat → Prop} {W a b : World} (hW : Below B W a) (h : Upd F a b) (hB : B ≤ a.heap.size) (hF : ∀ k, k < B → ¬ F k) : Below B W b :=
  hW.trans ⟨h.os, h.tape, h.output, h.size, fun k hk => h.block k (by omega) (hF k hk)⟩

theorem below_call {B : Nat} {W a b : World} (h : Below B W a) (hB : B ≤ a.heap.size) (k : Below a.heap.size a b) : Below B W b := h.trans (k.mono hB)

theorem heap_lt {w : World} {b : Nat} {o : Obj} (h : w.heap[b]? = some o) : b < w.heap.size := by
  rcases Nat.lt_or_ge b w.heap.size with h' | h'
  · exact h'
  · rw [Array.getElem?_eq_none h'] at h; cases h

theorem Upd.keeps {F : Nat → Prop} {w w' : World} (h : Upd F w w') {b : Nat} {o : Obj} (hb : w.heap[b]? = some o) (hF : ¬ F b) : w'.heap[b]? = some o := by
  rw [h.block b (heap_lt hb) hF]; exact hb

theorem cell_at {w : World} {b : Nat} {c : Array Value} {t : TypeId} {z : Nat × Nat} (h : w.heap[b]? = some (.cells c t z)) (i : Nat) : w.cell? ⟨b, i, none⟩ = c[i]? := by
  simp [World.cell?, h]
theorem free_at {w : World} {b : Nat} {c : Array Value} {t : TypeId} (h : w.heap[b]? = some (.cells c t (0, 0))) (i : Nat) : w.frozen? ⟨b, i, none⟩ = false := by
  simp [World.frozen?, h]
theorem set_at {w : World} {b : Nat} {c : Array Value} {t : TypeId} {z : Nat × Nat} (h : w.heap[b]? = some (.cells c t z)) (i : Nat) (v : Value) :
    (w.setCell ⟨b, i, none⟩ v).heap[b]? = some (.cells (c.setIfInBounds i v) t z) := by
  simp [World.setCell, Array.getElem?_modify, h]
theorem alloc_at (w : World) (o : Obj) : (w.alloc o).heap[w.heap.size]? = some o := by
  show (w.heap.push o)[w.heap.size]? = _
  simp
theorem alloc_old {w : World} {b : Nat} {o p : Obj} (h : w.heap[b]? = some p) : (w.alloc o).heap[b]? = some p := by
  rw [Below.heap_alloc _ _ _ (heap_lt h)]; exact h

theorem cells_new {w : World} {l : List Value} {cs : Array Value} {t : TypeId} {z : Nat × Nat} {b : Nat} (h : w.heap[b]? = some (.cells cs t z)) (hl : cs.toList = l) :
    ∀ (j : Nat) (u : Value), l[j]? = some u → w.cell? ((⟨b, 0, none⟩ : Addr).add j) = some u := by
  intro j u hj
  have e : (⟨b, 0, none⟩ : Addr).add j = ⟨b, j, none⟩ := by
    unfold Addr.add
    split <;> simp_all
  rw [e, cell_at h]
  subst hl
  simpa using hj
theorem below_keeps {B : Nat} {w w' : World} (h : Below B w w') {b : Nat} {o : Obj} (hb : w.heap[b]? = some o) (hF : b < B) : w'.heap[b]? = some o := by
  rw [h.block b hF]
  exact hb
theorem Upd.grown {F : Nat → Prop} {a w w' : World} {row : Option Nat} (h : Upd F a w) (hg : w.grownBy w' row) (hr : ∀ k, k < a.heap.size → row = some k → F k) : Upd F a w' :=
  h.trans (G := fun k => row = some k) ⟨hg.os, hg.tape, hg.output, hg.size, fun k hk hn => hg.block k hk (fun e => hn e.symm)⟩ (fun _ _ x => x) hr

theorem fn_end {v v' : Bool} (h : v = v') : Ending.returned (.bool v) = .returned (.bool v') := by rw [h]
theorem eqN (a b : Nat) : ((a : Int) == (b : Int)) = decide (a = b) := by
  rw [Bool.eq_iff_iff, beq_iff_eq, decide_eq_true_iff]
  omega
theorem ret_i64 {k : IntKind} {a b : Int} (h : a = b) : Ending.returned (.int k a) = .returned (.int k b) := by rw [h]
theorem cell_keep {B : Nat} {w w' : World} {a o : Nat} {v : Value} (h : Below B w w') (ha : a < B) (c : w.cell? ⟨a, o, none⟩ = some v) : w'.cell? ⟨a, o, none⟩ = some v := by
  rw [h.cell ha]
  exact c
end Go.Proofs.YthknbcbkibbncaaGreat

/- DERIVED. Rows of elements in a block that is known whole, and what copy, clear and append do to them. -/
namespace Go.Proofs.YthknbcbkibbncaaGreat
open Go.RowKit

section
variable {α : Type} (enc : α → List Value)

def flat (l : List α) : List Value := l.flatMap enc
variable {enc}
theorem flat_nil : flat enc [] = [] := rfl
theorem flat_cons (a : α) (l : List α) : flat enc (a :: l) = enc a ++ flat enc l := rfl
theorem flat_append (l m : List α) : flat enc (l ++ m) = flat enc l ++ flat enc m := by simp [flat]
theorem flat_length {k : Nat} (h : ∀ a, (enc a).length = k) (l : List α) : (flat enc l).length = l.length * k := by
  induction l with
  | nil => simp [flat]
  | cons a l ih => rw [flat_cons, List.length_append, ih, h, List.length_cons, Nat.succ_mul]; omega
theorem flat_take {k : Nat} (h : ∀ a, (enc a).length = k) (l : List α) (n : Nat) : (flat enc l).take (n * k) = flat enc (l.take n) := by
  induction l generalizing n with
  | nil => simp [flat]
  | cons a l ih =>
    cases n with
    | zero => simp [flat]
    | succ n =>
      rw [List.take_succ_cons, flat_cons, flat_cons, Nat.succ_mul, List.take_append, h, Nat.add_sub_cancel, ih, List.take_of_length_le (by rw [h]; omega)]
theorem flat_drop {k : Nat} (h : ∀ a, (enc a).length = k) (l : List α) (n : Nat) : (flat enc l).drop (n * k) = flat enc (l.drop n) := by
  induction l generalizing n with
  | nil => simp [flat]
  | cons a l ih =>
    cases n with
    | zero => simp
    | succ n =>
      rw [List.drop_succ_cons, flat_cons, Nat.succ_mul, List.drop_append, h, Nat.add_sub_cancel, ih, List.drop_of_length_le (by rw [h]; omega), List.nil_append]
theorem flat_get {k : Nat} (h : ∀ a, (enc a).length = k) (l : List α) (i j : Nat) (hj : j < k) {a : α} (ha : l[i]? = some a) : (flat enc l)[i * k + j]? = (enc a)[j]? := by
  have h1 : (flat enc l).drop (i * k) = enc a ++ flat enc (l.drop (i + 1)) := by
    rw [flat_drop h, ← flat_cons]
    congr 1
    obtain ⟨hi, rfl⟩ := List.getElem?_eq_some_iff.1 ha
    exact List.drop_eq_getElem_cons hi
  have h2 : (flat enc l)[i * k + j]? = ((flat enc l).drop (i * k))[j]? := by rw [List.getElem?_drop]
  rw [h2, h1, List.getElem?_append_left (by rw [h]; exact hj)]
theorem splice_len {β : Type} (L : List β) (o : Nat) (cs : List β) (h : o + cs.length ≤ L.length) : (splice L o cs).length = L.length := length_splice L o cs h
theorem flat_splice {k : Nat} (h : ∀ a, (enc a).length = k) (l : List α) (o : Nat) (cs : List α) : splice (flat enc l) (o * k) (flat enc cs) = flat enc (splice l o cs) := by
  unfold splice
  rw [flat_take h, flat_length h, ← Nat.add_mul, flat_drop h, flat_append, flat_append]
theorem flat_one (l : List α) (h1 : ∀ a ∈ l, ∀ v ∈ enc a, v.oneCell' = true) : ∀ v ∈ flat enc l, v.oneCell' = true := by
  intro v hv
  obtain ⟨a, hm, ha⟩ := List.mem_flatMap.1 hv
  exact h1 a hm v ha
theorem flat_replicate_zero {k : Nat} {z : Array Value} {a : α} (h : (enc a).length = k) (hz : z.toList = enc a) (n : Nat) : (Builtin.zeroCells z n).toList = flat enc (List.replicate n a) := by
  have hzs : z.size = k := by rw [← h, ← hz]; simp
  unfold Builtin.zeroCells
  apply List.ext_getElem?
  intro i
  rw [hzs]
  simp only [Array.toList_map, Array.toList_range, List.getElem?_map]
  by_cases hi : i < n * k
  · rw [List.getElem?_range hi]
    have hk : 0 < k := Nat.pos_of_ne_zero (by rintro rfl; omega)
    have e := Nat.div_add_mod i k
    have hd : i / k < n := Nat.div_lt_of_lt_mul (by rw [Nat.mul_comm]; exact hi)
    have hm := Nat.mod_lt i hk
    have hall : ∀ m, m < n → (List.replicate n a)[m]? = some a := fun m hm => by simp [hm]
    have key : ∀ (l : List α), (∀ b ∈ l, b = a) → i / k < l.length → (flat enc l)[i / k * k + i % k]? = (enc a)[i % k]? := by
      intro l
      generalize i / k = q
      induction l generalizing q with
      | nil => intro _ hq; simp at hq
      | cons b l ih =>
        intro hb hq
        obtain rfl := hb b (by simp)
        rw [flat_cons]
        cases q with
        | zero => rw [Nat.zero_mul, Nat.zero_add, List.getElem?_append_left (by rw [h]; exact hm)]
        | succ q =>
          rw [List.getElem?_append_right (by rw [h, Nat.succ_mul]; omega), h, show (q + 1) * k + i % k - k = q * k + i % k from by rw [Nat.succ_mul]; omega]
          exact ih q (fun c hc => hb c (by simp [hc])) (by simpa using hq)
    have hkey := key (List.replicate n a) (fun b hb => List.eq_of_mem_replicate hb) (by simpa using hd)
    rw [Nat.mul_comm, e] at hkey
    rw [hkey, ← hz]
    simp only [Option.map_some, Array.getElem?_toList]
    rw [getElem!_pos z (i % k) (by omega), Array.getElem?_eq_getElem (by omega)]
  · rw [List.getElem?_eq_none (by simpa using hi), List.getElem?_eq_none (by
      have : ∀ l : List α, (∀ b ∈ l, b = a) → (flat enc l).length = l.length * k := by
        intro l hl
        induction l with
        | nil => simp [flat]
        | cons b l ih =>
          obtain rfl := hl b (by simp)
          rw [flat_cons, List.length_append, ih (fun c hc => hl c (by simp [hc])), h, List.length_cons, Nat.succ_mul]; omega
      rw [this _ (fun b hb => List.eq_of_mem_replicate hb)]
      simpa using hi)]
    rfl

def Row (enc : α → List Value) (w : World) (E : TypeId) (g : Nat) (rs : List α) : Prop := w.heap[g]? = some (.cells (flat enc rs).toArray E (0, 0))
def setR (enc : α → List Value) (w : World) (g : Nat) (rs : List α) : World := w.setRow g (flat enc rs).toArray

theorem Row.set {w : World} {E : TypeId} {g : Nat} {rs : List α} (h : Row enc w E g rs) (ss : List α) : Row enc (setR enc w g ss) E g ss := setRow_heap w g _ _ E _ h
theorem setR_other (w : World) (g : Nat) (ss : List α) {j : Nat} (h : j ≠ g) : (setR enc w g ss).heap[j]? = w.heap[j]? := setRow_other w g j _ h
theorem setR_upd (w : World) (g : Nat) (ss : List α) : Upd (fun k => k = g) w (setR enc w g ss) := ⟨rfl, rfl, rfl, by simp [setR], fun k _ hn => setR_other w g ss hn⟩
theorem setR_size (w : World) (g : Nat) (ss : List α) : (setR enc w g ss).heap.size = w.heap.size := by simp [setR]
theorem setR_setR (w : World) (g : Nat) (a b : List α) : setR enc (setR enc w g a) g b = setR enc w g b := setRow_setRow w g _ _
theorem setR_drew (w : World) (g : Nat) (a : List α) : setR enc w.drew g a = (setR enc w g a).drew := rfl
theorem Row.self {w : World} {E : TypeId} {g : Nat} {rs : List α} (h : Row enc w E g rs) : setR enc w g rs = w := setRow_self w g _ E _ h

theorem Row.cell {w : World} {E : TypeId} {g : Nat} {rs : List α} (h : Row enc w E g rs) (j : Nat) : w.cell? ⟨g, j, none⟩ = (flat enc rs)[j]? := by
  rw [cell_at h]
  simp
theorem Row.el {w : World} {E : TypeId} {g : Nat} {rs : List α} (h : Row enc w E g rs) {k : Nat} (hk : ∀ a, (enc a).length = k) (i j : Nat) (hj : j < k) {a : α} (ha : rs[i]? = some a) : w.cell? ⟨g, i * k + j, none⟩ = (enc a)[j]? := by
  rw [h.cell, flat_get hk rs i j hj ha]
theorem Row.free {w : World} {E : TypeId} {g : Nat} {rs : List α} (h : Row enc w E g rs) (j : Nat) : w.frozen? ⟨g, j, none⟩ = false := free_at h j

theorem add_lit' (b o j : Nat) : (⟨b, o, none⟩ : Addr).add j = ⟨b, o + j, none⟩ := by
  unfold Addr.add
  split <;> simp_all
theorem Row.src {w : World} {E : TypeId} {g : Nat} {rs : List α} (h : Row enc w E g rs) {k : Nat} (hk : ∀ a, (enc a).length = k) (q n : Nat) (hq : q + n ≤ rs.length) :
    ∀ j v, (flat enc ((rs.drop q).take n))[j]? = some v → w.cell? ((⟨g, q * k, none⟩ : Addr).add j) = some v := by
  intro j v hv
  rw [add_lit', h.cell, ← hv, ← flat_take hk, ← flat_drop hk]
  have hj : j < n * k := by
    rcases Nat.lt_or_ge j (n * k) with h' | h'
    · exact h'
    · rw [List.getElem?_eq_none (by rw [flat_length hk, List.length_take, List.length_drop, Nat.min_eq_left (by omega)]; exact h')] at hv
      cases hv
  rw [List.getElem?_take_of_lt hj, List.getElem?_drop]

section
variable {P : Program} (w : World) {k : Nat} {e dT : TypeId} {i : TypeInfo}

theorem run_store_row (hk : ∀ a, (enc a).length = k) {p : α → Prop} (h1 : ∀ a, p a → ∀ v ∈ enc a, v.oneCell' = true) {E : TypeId} {g : Nat} {rs : List α} (h : Row enc w E g rs) (o : Nat) (cs : List α) (hp : ∀ a ∈ cs, p a) (hfit : o + cs.length ≤ rs.length) :
    (storeCells ⟨g, o * k, none⟩ (flat enc cs)).run P w = .ok () (setR enc w g (splice rs o cs)) := by
  have hl : (flat enc rs).toArray.size = rs.length * k := by simp [flat_length hk]
  have := run_storeCells_at (P := P) g (o * k) E (flat enc cs) 0 _ w h (by
    rw [hl, flat_length hk]
    have := Nat.mul_le_mul_right k hfit
    rw [Nat.add_mul] at this
    omega) (flat_one cs fun a ha => h1 a (hp a ha))
  rw [this]
  unfold setR
  rw [← flat_splice hk]
  simp only [splice, Nat.add_zero, List.append_assoc]

theorem run_copy_row (hk : ∀ a, (enc a).length = k) {p : α → Prop} (h1 : ∀ a, p a → ∀ v ∈ enc a, v.oneCell' = true) (hu : P.underlying dT = some (.slice e)) (hi : P.info? e = some i) (hz : i.size = k) (sT ty : TypeId)
    {E : TypeId} {g : Nat} {rs : List α} (h : Row enc w E g rs) {h' : Nat} {ss : List α} {E' : TypeId} (hs : Row enc w E' h' ss) (o q dLen dCap sLen sCap n : Nat) (hn : Nat.min sLen dLen = n) (hfit : o + n ≤ rs.length) (hq : q + n ≤ ss.length) (hp : ∀ a ∈ (ss.drop q).take n, p a) :
    (Builtin.copy_ #[dT, sT] ty #[.slice (some ⟨g, o * k, none⟩) dLen dCap, .slice (some ⟨h', q * k, none⟩) sLen sCap]).run P w = .ok (goInt n) (setR enc w g (splice rs o ((ss.drop q).take n))) := by
  have hcl : ((ss.drop q).take n).length = n := by rw [List.length_take, List.length_drop]; omega
  have hf := run_firstCells_some (P := P) w k n ⟨h', q * k, none⟩ sLen sCap (flat enc ((ss.drop q).take n)) (by rw [flat_length hk, hcl]) (hs.src hk q n hq)
  have hst := run_store_row (P := P) w hk h1 h o ((ss.drop q).take n) hp (by rw [hcl]; exact hfit)
  simp [Builtin.copy_, run_underlying hu, sizeOf, typeInfo, hi, hz, Builtin.lenOf, hn, hf, hst]

theorem run_copy_none (hu : P.underlying dT = some (.slice e)) (hi : P.info? e = some i) (sT ty : TypeId) (db sb : Option Addr) (dLen dCap sLen sCap : Nat) (hn : Nat.min sLen dLen = 0) :
    (Builtin.copy_ #[dT, sT] ty #[.slice db dLen dCap, .slice sb sLen sCap]).run P w = .ok (goInt 0) w := by
  have hl : ∀ a : Addr, (loadCells a 0).run P w = .ok #[] w := fun a => by simp [loadCells, loadCellsFrom]
  cases db <;> cases sb <;> simp [Builtin.copy_, run_underlying hu, sizeOf, typeInfo, hi, Builtin.lenOf, hn, Builtin.firstCells, storeCells, hl]

theorem run_clear_row (hk : ∀ a, (enc a).length = k) {p : α → Prop} (h1 : ∀ a, p a → ∀ v ∈ enc a, v.oneCell' = true) (hu : P.underlying dT = some (.slice e)) (hi : P.info? e = some i) {z : Value} (hz : i.zero = some z) {a0 : α} (ha0 : z.cells.toList = enc a0) (ty : TypeId)
    {E : TypeId} {g : Nat} {rs : List α} (h : Row enc w E g rs) (hp : p a0) (o n c : Nat) (hfit : o + n ≤ rs.length) :
    (Builtin.clear_ #[dT] ty #[.slice (some ⟨g, o * k, none⟩) n c]).run P w = .ok (.tuple #[]) (setR enc w g (splice rs o (List.replicate n a0))) := by
  have hst := run_store_row (P := P) w hk h1 h o (List.replicate n a0) (fun a ha => by rw [(List.mem_replicate.1 ha).2]; exact hp) (by simpa using hfit)
  have hzc := flat_replicate_zero (hk a0) ha0 n
  cases n with
  | zero =>
    simp only [List.replicate_zero, splice, List.nil_append, List.length_nil, Nat.add_zero, List.take_append_drop]
    rw [h.self]
    simp [Builtin.clear_, run_underlying hu]
  | succ n => simp [Builtin.clear_, run_underlying hu, zeroValue, typeInfo, hi, hz, hzc, hst]
theorem run_clear_none (hu : P.underlying dT = some (.slice e)) (ty : TypeId) (db : Option Addr) (c : Nat) : (Builtin.clear_ #[dT] ty #[.slice db 0 c]).run P w = .ok (.tuple #[]) w := by
  cases db <;> simp [Builtin.clear_, run_underlying hu]

theorem run_append_row (hk : ∀ a, (enc a).length = k) {p : α → Prop} (h1 : ∀ a, p a → ∀ v ∈ enc a, v.oneCell' = true) (hu : P.underlying dT = some (.slice e)) (hi : P.info? e = some i) (hz : i.size = k) (ty : TypeId)
    {E : TypeId} {g : Nat} {rs : List α} (h : Row enc w E g rs) {h' : Nat} {ss : List α} {E' : TypeId} (hs : Row enc w E' h' ss) (o q sLen sCap m c : Nat) (hroom : sLen + m ≤ sCap) (hfit : o + sLen + m ≤ rs.length) (hq : q + m ≤ ss.length) (hp : ∀ a ∈ (ss.drop q).take m, p a) :
    (Builtin.append_ #[dT, dT] ty #[.slice (some ⟨g, o * k, none⟩) sLen sCap, .slice (some ⟨h', q * k, none⟩) m c]).run P w =
      .ok (.slice (some ⟨g, o * k, none⟩) (sLen + m) sCap) (setR enc w g (splice rs (o + sLen) ((ss.drop q).take m))) := by
  have hcl : ((ss.drop q).take m).length = m := by rw [List.length_take, List.length_drop]; omega
  have hf := run_firstCells_some (P := P) w k m ⟨h', q * k, none⟩ m c (flat enc ((ss.drop q).take m)) (by rw [flat_length hk, hcl]) (hs.src hk q m hq)
  have hst := run_store_row (P := P) w hk h1 h (o + sLen) ((ss.drop q).take m) hp (by rw [hcl]; exact hfit)
  have ha : (⟨g, o * k, none⟩ : Addr).add (sLen * k) = ⟨g, (o + sLen) * k, none⟩ := by rw [add_lit', Nat.add_mul]
  simp [Builtin.append_, run_underlying hu, sizeOf, typeInfo, hi, hz, Builtin.lenOf, hroom, hf, ha, hst]

theorem run_append_new (hk : ∀ a, (enc a).length = k) (hu : P.underlying dT = some (.slice e)) (hi : P.info? e = some i) (hz : i.size = k) {z : Value} (hzz : i.zero = some z) {a0 : α} (ha0 : z.cells.toList = enc a0) (ty : TypeId)
    {E : TypeId} {g : Nat} {rs : List α} (h : Row enc w E g rs) {h' : Nat} {ss : List α} {E' : TypeId} (hs : Row enc w E' h' ss) (o q sLen sCap m c : Nat) (hroom : sCap < sLen + m) (hfit : o + sLen ≤ rs.length) (hq : q + m ≤ ss.length)
    (hc : sLen ≤ sCap) (h63 : sLen + m ≤ 9223372036854775807) (hbytes : (sLen + m) * i.bytes ≤ 140737488355328) :
    ∃ cap, sLen + m ≤ cap ∧ cap ≤ 9223372036854775807 ∧ (Builtin.append_ #[dT, dT] ty #[.slice (some ⟨g, o * k, none⟩) sLen sCap, .slice (some ⟨h', q * k, none⟩) m c]).run P w =
      .ok (.slice (some ⟨w.heap.size, 0, none⟩) (sLen + m) cap) (w.drew.alloc (.cells (flat enc ((rs.drop o).take sLen ++ (ss.drop q).take m ++ List.replicate (cap - (sLen + m)) a0)).toArray e)) := by
  have hr := run_append_grow (P := P) w dT ty e i z hu hi hzz ⟨g, o * k, none⟩ sLen sCap (flat enc ((rs.drop o).take sLen)) (by rw [flat_length hk, hz, List.length_take, List.length_drop, Nat.min_eq_left (by omega)])
    (h.src hk o sLen hfit) ⟨h', q * k, none⟩ m c (flat enc ((ss.drop q).take m)) (by rw [flat_length hk, hz, List.length_take, List.length_drop, Nat.min_eq_left (by omega)]) (hs.src hk q m hq) hroom (by omega)
    (growslice_fits (by omega) hbytes)
  refine ⟨grownCap w (sLen + m) sCap e, grownCap_ge _ _ _ _, grownCap_le_maxLen _ _ _ _ (by unfold maxLen; omega), ?_⟩
  rw [hr]
  congr 3
  rw [flat_append, flat_append, ← flat_replicate_zero (hk a0) ha0]
  simp

theorem run_append_onto_nil (hk : ∀ a, (enc a).length = k) (hu : P.underlying dT = some (.slice e)) (hi : P.info? e = some i) (hz : i.size = k) {z : Value} (hzz : i.zero = some z) {a0 : α} (ha0 : z.cells.toList = enc a0) (ty : TypeId)
    {h' : Nat} {ss : List α} {E' : TypeId} (hs : Row enc w E' h' ss) (q m c : Nat) (hm : 0 < m) (hq : q + m ≤ ss.length) (h63 : m ≤ 9223372036854775807) (hbytes : m * i.bytes ≤ 140737488355328) :
    ∃ cap, m ≤ cap ∧ cap ≤ 9223372036854775807 ∧ (Builtin.append_ #[dT, dT] ty #[.slice none 0 0, .slice (some ⟨h', q * k, none⟩) m c]).run P w =
      .ok (.slice (some ⟨w.heap.size, 0, none⟩) m cap) (w.drew.alloc (.cells (flat enc ((ss.drop q).take m ++ List.replicate (cap - m) a0)).toArray e)) := by
  have hr := run_append_nil (P := P) w dT ty e i z hu hi hzz ⟨h', q * k, none⟩ m c (flat enc ((ss.drop q).take m)) (by rw [flat_length hk, hz, List.length_take, List.length_drop, Nat.min_eq_left (by omega)]) (hs.src hk q m hq) hm (by omega) (by omega)
  refine ⟨grownCap w m 0 e, grownCap_ge _ _ _ _, grownCap_le_maxLen _ _ _ _ (by unfold maxLen; omega), ?_⟩
  rw [hr]
  congr 3
  rw [flat_append, ← flat_replicate_zero (hk a0) ha0]
  simp

theorem run_append_zeros_new (hk : ∀ a, (enc a).length = k) (hk0 : 0 < k) (hu : P.underlying dT = some (.slice e)) {nT : TypeId} {kn : IntKind} (hn : P.underlying nT = some (.int kn)) (hi : P.info? e = some i) (hz : i.size = k) {z : Value} (hzz : i.zero = some z) {a0 : α} (ha0 : z.cells.toList = enc a0) (ty : TypeId)
    {E : TypeId} {g : Nat} {rs : List α} (h : Row enc w E g rs) (o sLen sCap m : Nat) (kn' : IntKind) (hroom : sCap < sLen + m) (hfit : o + sLen ≤ rs.length) (hm : 0 < m)
    (hc : sLen ≤ sCap) (h63 : sLen + m ≤ 9223372036854775807) (hbytes : (sLen + m) * i.bytes ≤ 140737488355328) :
    ∃ cap, sLen + m ≤ cap ∧ cap ≤ 9223372036854775807 ∧ (Builtin.append_ #[dT, nT] ty #[.slice (some ⟨g, o * k, none⟩) sLen sCap, .int kn' m]).run P w =
      .ok (.slice (some ⟨w.heap.size, 0, none⟩) (sLen + m) cap) (w.drew.alloc (.cells (flat enc ((rs.drop o).take sLen ++ List.replicate m a0 ++ List.replicate (cap - (sLen + m)) a0)).toArray e)) := by
  refine ⟨grownCap w (sLen + m) sCap e, grownCap_ge _ _ _ _, grownCap_le_maxLen _ _ _ _ (by unfold maxLen; omega), ?_⟩
  have hn' : ¬ (sLen + m ≤ sCap) := by omega
  have hw : IntKind.i64.wrap (m : Int) = m := by rw [IntKind.wrap_i64]; omega
  have h63' : ¬ (9223372036854775807 < ((sLen : Int) + max (m : Int) 0)) := by omega
  have h63'' : ¬ (9223372036854775807 < ((sLen : Int) + (m : Int))) := by omega
  have hfit2 : Builtin.nextslicecap (sLen + m) sCap * i.bytes ≤ 281474976710656 := growslice_fits (by omega) hbytes
  have h48' : ¬ (281474976710656 < Builtin.nextslicecap (sLen + m) sCap * i.bytes) := by omega
  have h48i : ¬ (281474976710656 < (m : Int) * (i.bytes : Int)) := by
    rw [← Int.natCast_mul]
    have : m * i.bytes ≤ (sLen + m) * i.bytes := Nat.mul_le_mul_right _ (by omega)
    omega
  have hneg : ¬ ((m : Int) < 0) := by omega
  have hns : ¬ (m * k = 0) := Nat.mul_ne_zero (by omega) (by omega)
  have hfo := run_firstCells_some (P := P) w.drew k sLen ⟨g, o * k, none⟩ sLen sCap (flat enc ((rs.drop o).take sLen)) (by rw [flat_length hk, List.length_take, List.length_drop, Nat.min_eq_left (by omega)])
    (by simpa using h.src hk o sLen hfit)
  have e1 : (flat enc ((rs.drop o).take sLen ++ List.replicate m a0 ++ List.replicate (grownCap w (sLen + m) sCap e - (sLen + m)) a0)).toArray =
      (flat enc ((rs.drop o).take sLen)).toArray ++ Builtin.zeroCells z.cells m ++ Builtin.zeroCells z.cells (grownCap w (sLen + m) sCap e - (sLen + m)) := by
    rw [flat_append, flat_append, ← flat_replicate_zero (hk a0) ha0, ← flat_replicate_zero (hk a0) ha0]
    simp
  rw [e1]
  simp [Builtin.append_, run_underlying hu, run_underlying hn, sizeOf, typeInfo, zeroValue, hi, hz, hzz, asInt, asIntOf, hw, hn', hneg, hns, h63'', h48', h48i, Question.forced, hfo, newRow, grownCap]
end
end

section
variable {P : Program} (w : World)
theorem wp_copy_run {o : Oper} {a : Act} {K : Act → World → Prop} {Q : Exit → Act → World → Prop} (d s : Operand) (t t' : TypeId)
    (ho : o.op = .call { callee := .builtin .copy, args := #[d, s], argTypes := #[t, t'] }) (v u : Value) (hd : a.eval d = v) (hs : a.eval s = u) {v' : Value} {w' : World}
    (hr : (Builtin.copy_ #[t, t'] o.type #[v, u]).run P w = .ok v' w') (h : K (a.put o.dst v') w') : o.wp P a w K Q := by
  unfold Oper.wp execOp
  simp only [ho, resolve, invoke, builtin, Sem.run_bind, Sem.run_pure, Result.andThen_ok, List.map_toArray, List.map_cons, List.map_nil, hd, hs, hr]
  exact h
theorem wpList_copy_run {ops : Array Oper} {rest : List Oper} {o : Oper} {a : Act} {Q : Exit → Act → World → Prop} (hgd : o.guard = none) (d s : Operand) (t t' : TypeId)
    (ho : o.op = .call { callee := .builtin .copy, args := #[d, s], argTypes := #[t, t'] }) (v u : Value) (hd : a.eval d = v) (hs : a.eval s = u) {v' : Value} {w' : World}
    (hr : (Builtin.copy_ #[t, t'] o.type #[v, u]).run P w = .ok v' w') (h : wpList P ops Q rest (a.put o.dst v') w') : wpList P ops Q (o :: rest) a w :=
  wpList_plain hgd fun _ hK => wp_copy_run w d s t t' ho v u hd hs hr (hK _ _ h)
theorem step_copy_run {ops : Array Oper} {o : Oper} {a : Act} {K : Act → World → Prop} {Q : Exit → Act → World → Prop} {E : Prop}
    (hg : o.guard = none) (d x : Operand) (t t' : TypeId) (hop : o.op = Op.call { callee := Callee.builtin Builtin.copy, args := #[d, x], argTypes := #[t, t'] })
    (v u : Value) (hd : a.eval d = v) (hx : a.eval x = u) {v' : Value} {w' : World} (hr : (Builtin.copy_ #[t, t'] o.type #[v, u]).run P w = .ok v' w') (hK : K (a.put o.dst v') w') :
    if Region.wanted o (yielded ops a.tmps) = true then Oper.wp P o a w K Q else E := by
  have hw : Region.wanted o (yielded ops a.tmps) = true := by simp [Region.wanted, hg]
  rw [if_pos hw]
  exact wp_copy_run w d x t t' hop v u hd hx hr hK
theorem step_append_run {ops : Array Oper} {o : Oper} {a : Act} {K : Act → World → Prop} {Q : Exit → Act → World → Prop} {E : Prop}
    (hg : o.guard = none) (d x : Operand) (t t' : TypeId) (hop : o.op = Op.call { callee := Callee.builtin Builtin.append, args := #[d, x], argTypes := #[t, t'] })
    (v u : Value) (hd : a.eval d = v) (hx : a.eval x = u) {v' : Value} {w' : World} (hr : (Builtin.append_ #[t, t'] o.type #[v, u]).run P w = .ok v' w') (hK : K (a.put o.dst v') w') :
    if Region.wanted o (yielded ops a.tmps) = true then Oper.wp P o a w K Q else E := by
  have hw : Region.wanted o (yielded ops a.tmps) = true := by simp [Region.wanted, hg]
  rw [if_pos hw]
  exact Lib.wp_append_run w d x t t' hop v u hd hx v' w' hr hK
theorem wp_clear_run {o : Oper} {a : Act} {K : Act → World → Prop} {Q : Exit → Act → World → Prop} (d : Operand) (t : TypeId)
    (ho : o.op = .call { callee := .builtin .clear, args := #[d], argTypes := #[t] }) (v : Value) (hd : a.eval d = v) {v' : Value} {w' : World}
    (hr : (Builtin.clear_ #[t] o.type #[v]).run P w = .ok v' w') (h : K (a.put o.dst v') w') : o.wp P a w K Q := by
  unfold Oper.wp execOp
  simp only [ho, resolve, invoke, builtin, Sem.run_bind, Sem.run_pure, Result.andThen_ok, List.map_toArray, List.map_cons, List.map_nil, hd, hr]
  exact h
theorem wpList_clear_run {ops : Array Oper} {rest : List Oper} {o : Oper} {a : Act} {Q : Exit → Act → World → Prop} (hgd : o.guard = none) (d : Operand) (t : TypeId)
    (ho : o.op = .call { callee := .builtin .clear, args := #[d], argTypes := #[t] }) (v : Value) (hd : a.eval d = v) {v' : Value} {w' : World}
    (hr : (Builtin.clear_ #[t] o.type #[v]).run P w = .ok v' w') (h : wpList P ops Q rest (a.put o.dst v') w') : wpList P ops Q (o :: rest) a w :=
  wpList_plain hgd fun _ hK => wp_clear_run w d t ho v hd hr (hK _ _ h)
end

section
variable {α : Type} {enc : α → List Value} {P : Program} {w : World} {k : Nat} {e dT : TypeId} {i : TypeInfo}
theorem splice_take_lt {β : Type} {L c : List β} {o m : Nat} (hm : m ≤ o) (ho : o ≤ L.length) : (splice L o c).take m = L.take m := by
  unfold splice
  rw [List.take_append_of_le_length (by rw [List.length_take]; omega), List.take_take, Nat.min_eq_left hm]
theorem splice_take_end {β : Type} {L c : List β} {o : Nat} (ho : o ≤ L.length) : (splice L o c).take (o + c.length) = L.take o ++ c := by
  unfold splice
  have e : (L.take o ++ c).length = o + c.length := by simp; omega
  rw [← List.append_assoc, ← e, List.take_left]
theorem splice_drop_ge {β : Type} {L c : List β} {o m : Nat} (hf : o + c.length ≤ L.length) (hm : o + c.length ≤ m) : (splice L o c).drop m = L.drop m := by
  unfold splice
  have e : (L.take o ++ c).length = o + c.length := by simp; omega
  rw [← List.append_assoc, List.drop_append, e, List.drop_drop, List.drop_of_length_le (by omega), List.nil_append]
  congr 1
  omega
theorem wpList_clear_zero {P : Program} {w : World} {e dT : TypeId} (hu : P.underlying dT = some (.slice e)) {ops : Array Oper} {rest : List Oper} {o : Oper} {a : Act} {Q : Exit → Act → World → Prop} (hgd : o.guard = none) (d : Operand)
    (ho : o.op = .call { callee := .builtin .clear, args := #[d], argTypes := #[dT] }) {db : Option Addr} {n dCap : Nat} (hd : a.eval d = .slice db n dCap) (hn : n = 0)
    (hK : wpList P ops Q rest (a.put o.dst (.tuple #[])) w) : wpList P ops Q (o :: rest) a w := by
  subst hn
  exact wpList_clear_run w hgd d dT ho _ hd (run_clear_none w hu _ db dCap) hK
theorem min_of {n sLen dLen : Nat} (hn : (n ≤ sLen ∧ n ≤ dLen) ∧ (sLen = n ∨ dLen = n)) : Nat.min sLen dLen = n := by
  show min sLen dLen = n
  omega
theorem wpList_copy_at (hk : ∀ a, (enc a).length = k) {p : α → Prop} (h1 : ∀ a, p a → ∀ v ∈ enc a, v.oneCell' = true) (hu : P.underlying dT = some (.slice e)) (hi : P.info? e = some i) (hz : i.size = k)
    {ops : Array Oper} {rest : List Oper} {o : Oper} {a : Act} {Q : Exit → Act → World → Prop} (hgd : o.guard = none) (d s : Operand) (t' : TypeId)
    (ho : o.op = .call { callee := .builtin .copy, args := #[d, s], argTypes := #[dT, t'] }) {E : TypeId} {g : Nat} {rs : List α} (h : Row enc w E g rs) {h' : Nat} {ss : List α} {E' : TypeId} (hs : Row enc w E' h' ss)
    (po q n : Nat) {off soff dLen dCap sLen sCap : Nat} (hd : a.eval d = .slice (some ⟨g, off, none⟩) dLen dCap) (hsv : a.eval s = .slice (some ⟨h', soff, none⟩) sLen sCap) (hoff : off = po * k) (hsoff : soff = q * k)
    (hn : (n ≤ sLen ∧ n ≤ dLen) ∧ (sLen = n ∨ dLen = n)) (hfit : po + n ≤ rs.length) (hq : q + n ≤ ss.length) (hp : ∀ a ∈ (ss.drop q).take n, p a)
    (hK : ∀ W, Row enc W E g (splice rs po ((ss.drop q).take n)) → Upd (fun j => j = g) w W → wpList P ops Q rest (a.put o.dst (goInt n)) W) : wpList P ops Q (o :: rest) a w := by
  subst hoff hsoff
  exact wpList_copy_run w hgd d s dT t' ho _ _ hd hsv (run_copy_row w hk h1 hu hi hz t' _ h hs po q dLen dCap sLen sCap n (min_of hn) hfit hq hp) (hK _ (h.set _) (setR_upd w g _))
theorem step_copy_at (hk : ∀ a, (enc a).length = k) {p : α → Prop} (h1 : ∀ a, p a → ∀ v ∈ enc a, v.oneCell' = true) (hu : P.underlying dT = some (.slice e)) (hi : P.info? e = some i) (hz : i.size = k)
    {ops : Array Oper} {o : Oper} {a : Act} {K : Act → World → Prop} {Q : Exit → Act → World → Prop} {F : Prop} (hgd : o.guard = none) (d s : Operand) (t' : TypeId)
    (ho : o.op = .call { callee := .builtin .copy, args := #[d, s], argTypes := #[dT, t'] }) {E : TypeId} {g : Nat} {rs : List α} (h : Row enc w E g rs) {h' : Nat} {ss : List α} {E' : TypeId} (hs : Row enc w E' h' ss)
    (po q n : Nat) {off soff dLen dCap sLen sCap : Nat} (hd : a.eval d = .slice (some ⟨g, off, none⟩) dLen dCap) (hsv : a.eval s = .slice (some ⟨h', soff, none⟩) sLen sCap) (hoff : off = po * k) (hsoff : soff = q * k)
    (hn : (n ≤ sLen ∧ n ≤ dLen) ∧ (sLen = n ∨ dLen = n)) (hfit : po + n ≤ rs.length) (hq : q + n ≤ ss.length) (hp : ∀ a ∈ (ss.drop q).take n, p a)
    (hK : ∀ W, Row enc W E g (splice rs po ((ss.drop q).take n)) → Upd (fun j => j = g) w W → K (a.put o.dst (goInt n)) W) : if Region.wanted o (yielded ops a.tmps) = true then Oper.wp P o a w K Q else F := by
  subst hoff hsoff
  exact step_copy_run w hgd d s dT t' ho _ _ hd hsv (run_copy_row w hk h1 hu hi hz t' _ h hs po q dLen dCap sLen sCap n (min_of hn) hfit hq hp) (hK _ (h.set _) (setR_upd w g _))
theorem wpList_clear_at (hk : ∀ a, (enc a).length = k) {p : α → Prop} (h1 : ∀ a, p a → ∀ v ∈ enc a, v.oneCell' = true) (hu : P.underlying dT = some (.slice e)) (hi : P.info? e = some i) {z : Value} (hz : i.zero = some z) {a0 : α} (ha0 : z.cells.toList = enc a0) (hp : p a0)
    {ops : Array Oper} {rest : List Oper} {o : Oper} {a : Act} {Q : Exit → Act → World → Prop} (hgd : o.guard = none) (d : Operand)
    (ho : o.op = .call { callee := .builtin .clear, args := #[d], argTypes := #[dT] }) {E : TypeId} {g : Nat} {rs : List α} (h : Row enc w E g rs)
    (po n : Nat) {off dCap : Nat} (hd : a.eval d = .slice (some ⟨g, off, none⟩) n dCap) (hoff : off = po * k) (hfit : po + n ≤ rs.length)
    (hK : ∀ W, Row enc W E g (splice rs po (List.replicate n a0)) → Upd (fun j => j = g) w W → wpList P ops Q rest (a.put o.dst (.tuple #[])) W) : wpList P ops Q (o :: rest) a w := by
  subst hoff
  exact wpList_clear_run w hgd d dT ho _ hd (run_clear_row w hk h1 hu hi hz ha0 _ h hp po n dCap hfit) (hK _ (h.set _) (setR_upd w g _))
theorem wpList_append_at (hk : ∀ a, (enc a).length = k) {p : α → Prop} (h1 : ∀ a, p a → ∀ v ∈ enc a, v.oneCell' = true) (hu : P.underlying dT = some (.slice e)) (hi : P.info? e = some i) (hz : i.size = k)
    {ops : Array Oper} {rest : List Oper} {o : Oper} {a : Act} {Q : Exit → Act → World → Prop} (hgd : o.guard = none) (d s : Operand)
    (ho : o.op = .call { callee := .builtin .append, args := #[d, s], argTypes := #[dT, dT] }) {E : TypeId} {g : Nat} {rs : List α} (h : Row enc w E g rs) {h' : Nat} {ss : List α} {E' : TypeId} (hs : Row enc w E' h' ss)
    (po q : Nat) {off soff sLen sCap m c : Nat} (hd : a.eval d = .slice (some ⟨g, off, none⟩) sLen sCap) (hsv : a.eval s = .slice (some ⟨h', soff, none⟩) m c) (hoff : off = po * k) (hsoff : soff = q * k)
    (hroom : sLen + m ≤ sCap) (hfit : po + sLen + m ≤ rs.length) (hq : q + m ≤ ss.length) (hp : ∀ a ∈ (ss.drop q).take m, p a)
    (hK : ∀ W, Row enc W E g (splice rs (po + sLen) ((ss.drop q).take m)) → Upd (fun j => j = g) w W → wpList P ops Q rest (a.put o.dst (.slice (some ⟨g, off, none⟩) (sLen + m) sCap)) W) : wpList P ops Q (o :: rest) a w := by
  subst hoff hsoff
  exact Lib.wpList_append_run w hgd d s dT dT ho _ _ hd hsv _ _ (run_append_row w hk h1 hu hi hz _ h hs po q sLen sCap m c hroom hfit hq hp) (hK _ (h.set _) (setR_upd w g _))
theorem step_append_at (hk : ∀ a, (enc a).length = k) {p : α → Prop} (h1 : ∀ a, p a → ∀ v ∈ enc a, v.oneCell' = true) (hu : P.underlying dT = some (.slice e)) (hi : P.info? e = some i) (hz : i.size = k)
    {ops : Array Oper} {o : Oper} {a : Act} {K : Act → World → Prop} {Q : Exit → Act → World → Prop} {F : Prop} (hgd : o.guard = none) (d s : Operand)
    (ho : o.op = .call { callee := .builtin .append, args := #[d, s], argTypes := #[dT, dT] }) {E : TypeId} {g : Nat} {rs : List α} (h : Row enc w E g rs) {h' : Nat} {ss : List α} {E' : TypeId} (hs : Row enc w E' h' ss)
    (po q : Nat) {off soff sLen sCap m c : Nat} (hd : a.eval d = .slice (some ⟨g, off, none⟩) sLen sCap) (hsv : a.eval s = .slice (some ⟨h', soff, none⟩) m c) (hoff : off = po * k) (hsoff : soff = q * k)
    (hroom : sLen + m ≤ sCap) (hfit : po + sLen + m ≤ rs.length) (hq : q + m ≤ ss.length) (hp : ∀ a ∈ (ss.drop q).take m, p a)
    (hK : ∀ W, Row enc W E g (splice rs (po + sLen) ((ss.drop q).take m)) → Upd (fun j => j = g) w W → K (a.put o.dst (.slice (some ⟨g, off, none⟩) (sLen + m) sCap)) W) : if Region.wanted o (yielded ops a.tmps) = true then Oper.wp P o a w K Q else F := by
  subst hoff hsoff
  exact step_append_run w hgd d s dT dT ho _ _ hd hsv (run_append_row w hk h1 hu hi hz _ h hs po q sLen sCap m c hroom hfit hq hp) (hK _ (h.set _) (setR_upd w g _))
theorem wpList_append_fresh (hk : ∀ a, (enc a).length = k) (hu : P.underlying dT = some (.slice e)) (hi : P.info? e = some i) (hz : i.size = k) {z : Value} (hzz : i.zero = some z) {a0 : α} (ha0 : z.cells.toList = enc a0)
    {ops : Array Oper} {rest : List Oper} {o : Oper} {a : Act} {Q : Exit → Act → World → Prop} (hgd : o.guard = none) (d s : Operand)
    (ho : o.op = .call { callee := .builtin .append, args := #[d, s], argTypes := #[dT, dT] }) {E : TypeId} {g : Nat} {rs : List α} (h : Row enc w E g rs) {h' : Nat} {ss : List α} {E' : TypeId} (hs : Row enc w E' h' ss)
    (po q : Nat) {off soff sLen sCap m c : Nat} (hd : a.eval d = .slice (some ⟨g, off, none⟩) sLen sCap) (hsv : a.eval s = .slice (some ⟨h', soff, none⟩) m c) (hoff : off = po * k) (hsoff : soff = q * k)
    (hroom : sCap < sLen + m) (hfit : po + sLen ≤ rs.length) (hq : q + m ≤ ss.length) (hc : sLen ≤ sCap) (h63 : sLen + m ≤ 9223372036854775807) (hbytes : (sLen + m) * i.bytes ≤ 140737488355328)
    (hK : ∀ W cap, Row enc W e w.heap.size ((rs.drop po).take sLen ++ (ss.drop q).take m ++ List.replicate (cap - (sLen + m)) a0) → sLen + m ≤ cap → cap ≤ 9223372036854775807 → Below w.heap.size w W → W.heap.size = w.heap.size + 1 →
      wpList P ops Q rest (a.put o.dst (.slice (some ⟨w.heap.size, 0, none⟩) (sLen + m) cap)) W) : wpList P ops Q (o :: rest) a w := by
  subst hoff hsoff
  obtain ⟨cap, h2, h3, hr⟩ := run_append_new w hk hu hi hz hzz ha0 o.type h hs po q sLen sCap m c hroom hfit hq hc h63 hbytes
  exact Lib.wpList_append_run w hgd d s dT dT ho _ _ hd hsv _ _ hr (hK _ cap (alloc_at w.drew _) h2 h3 ((Below.refl _ _).drew.alloc (Nat.le_refl _) _) (by simp))
theorem wpList_append_nil (hk : ∀ a, (enc a).length = k) (hu : P.underlying dT = some (.slice e)) (hi : P.info? e = some i) (hz : i.size = k) {z : Value} (hzz : i.zero = some z) {a0 : α} (ha0 : z.cells.toList = enc a0)
    {ops : Array Oper} {rest : List Oper} {o : Oper} {a : Act} {Q : Exit → Act → World → Prop} (hgd : o.guard = none) (d s : Operand)
    (ho : o.op = .call { callee := .builtin .append, args := #[d, s], argTypes := #[dT, dT] }) {h' : Nat} {ss : List α} {E' : TypeId} (hs : Row enc w E' h' ss)
    (q : Nat) {soff m c : Nat} (hd : a.eval d = .slice none 0 0) (hsv : a.eval s = .slice (some ⟨h', soff, none⟩) m c) (hsoff : soff = q * k)
    (hm : 0 < m) (hq : q + m ≤ ss.length) (h63 : m ≤ 9223372036854775807) (hbytes : m * i.bytes ≤ 140737488355328)
    (hK : ∀ W cap, Row enc W e w.heap.size ((ss.drop q).take m ++ List.replicate (cap - m) a0) → m ≤ cap → cap ≤ 9223372036854775807 → Below w.heap.size w W → W.heap.size = w.heap.size + 1 →
      wpList P ops Q rest (a.put o.dst (.slice (some ⟨w.heap.size, 0, none⟩) m cap)) W) : wpList P ops Q (o :: rest) a w := by
  subst hsoff
  obtain ⟨cap, h2, h3, hr⟩ := run_append_onto_nil w hk hu hi hz hzz ha0 o.type hs q m c hm hq h63 hbytes
  exact Lib.wpList_append_run w hgd d s dT dT ho _ _ hd hsv _ _ hr (hK _ cap (alloc_at w.drew _) h2 h3 ((Below.refl _ _).drew.alloc (Nat.le_refl _) _) (by simp))
theorem wpList_append_zeros (hk : ∀ a, (enc a).length = k) (hk0 : 0 < k) (hu : P.underlying dT = some (.slice e)) {nT : TypeId} {kn : IntKind} (hnT : P.underlying nT = some (.int kn)) (hi : P.info? e = some i) (hz : i.size = k) {z : Value} (hzz : i.zero = some z) {a0 : α} (ha0 : z.cells.toList = enc a0)
    {ops : Array Oper} {rest : List Oper} {o : Oper} {a : Act} {Q : Exit → Act → World → Prop} (hgd : o.guard = none) (d s : Operand)
    (ho : o.op = .call { callee := .builtin .append, args := #[d, s], argTypes := #[dT, nT] }) {E : TypeId} {g : Nat} {rs : List α} (h : Row enc w E g rs)
    (po : Nat) {off sLen sCap m : Nat} {kn' : IntKind} {zn : Int} (hd : a.eval d = .slice (some ⟨g, off, none⟩) sLen sCap) (hsv : a.eval s = .int kn' zn) (hzn : zn = m) (hoff : off = po * k)
    (hroom : sCap < sLen + m) (hfit : po + sLen ≤ rs.length) (hm : 0 < m) (hc : sLen ≤ sCap) (h63 : sLen + m ≤ 9223372036854775807) (hbytes : (sLen + m) * i.bytes ≤ 140737488355328)
    (hK : ∀ W cap, Row enc W e w.heap.size ((rs.drop po).take sLen ++ List.replicate m a0 ++ List.replicate (cap - (sLen + m)) a0) → sLen + m ≤ cap → cap ≤ 9223372036854775807 → Below w.heap.size w W → W.heap.size = w.heap.size + 1 →
      wpList P ops Q rest (a.put o.dst (.slice (some ⟨w.heap.size, 0, none⟩) (sLen + m) cap)) W) : wpList P ops Q (o :: rest) a w := by
  subst hoff hzn
  obtain ⟨cap, h2, h3, hr⟩ := run_append_zeros_new w hk hk0 hu hnT hi hz hzz ha0 o.type h po sLen sCap m kn' hroom hfit hm hc h63 hbytes
  exact Lib.wpList_append_run w hgd d s dT nT ho _ _ hd hsv _ _ hr (hK _ cap (alloc_at w.drew _) h2 h3 ((Below.refl _ _).drew.alloc (Nat.le_refl _) _) (by simp))
end
end Go.Proofs.YthknbcbkibbncaaGreat

/- DERIVED. Ranges in memory: rows of two numbers each; slices that lie at the head of a row. -/
namespace Go.Proofs.YthknbcbkibbncaaGreat
open Go.RowKit

abbrev Rg : Type := Value × Value
def encR (r : Rg) : List Value := [r.1, r.2]
def oneR (r : Rg) : Prop := r.1.oneCell' = true ∧ r.2.oneCell' = true
def z0 : Rg := (.int .u64 0, .int .u64 0)
theorem z0_one : oneR z0 := ⟨rfl, rfl⟩
theorem encR_len (r : Rg) : (encR r).length = 2 := rfl
theorem encR_one (r : Rg) (h : oneR r) : ∀ v ∈ encR r, v.oneCell' = true := by
  intro v hv
  simp [encR] at hv
  rcases hv with rfl | rfl
  · exact h.1
  · exact h.2
theorem infoR : (Tryz.prog.info? 444).map (fun i => (i.zero, i.size, i.bytes)) = some (some (.agg #[.int .u64 0, .int .u64 0]), 2, 16) := by kernel_rfl
theorem zeroR : (Value.agg #[.int .u64 0, .int .u64 0]).cells.toList = encR z0 := rfl

abbrev RowR (E : TypeId) (w : World) (g : Nat) (rs : List Rg) : Prop := Row encR w E g rs
def Head (E : TypeId) (w : World) (g : Nat) (xs : List Rg) (cap : Nat) : Prop := ∃ ys, RowR E w g (xs ++ ys) ∧ xs.length + ys.length = cap

theorem splice_end {β : Type} (a b c : List β) (_h : c.length ≤ b.length) : splice (a ++ b) a.length c = a ++ (c ++ b.drop c.length) := by
  unfold splice
  rw [List.take_append_of_le_length (Nat.le_refl _), List.take_length, ← List.drop_drop, List.drop_append_of_le_length (Nat.le_refl _), List.drop_length, List.nil_append]
theorem splice_at {β : Type} (L a b c : List β) (hL : L = a ++ b) (o : Nat) (ho : o = a.length) (h : c.length ≤ b.length) : splice L o c = a ++ (c ++ b.drop c.length) := by
  subst hL ho
  exact splice_end a b c h
end Go.Proofs.YthknbcbkibbncaaGreat

/- DERIVED. Walk of slices.Replace at ranges: one element for at least one. -/
namespace Go.Proofs.YthknbcbkibbncaaGreat
open Go.RowKit

theorem replace_rows {rs : List Rg} {r : Rg} {i k n cap : Nat} {zz : List Rg} (hik : i < k) (hkn : k < n) (hnc : n ≤ cap) (hrs : rs.length = cap)
    (hz : zz = splice (splice rs i [r]) (i + 1) (((splice rs i [r]).drop k).take (n - k)) ∨ ∃ c, zz = splice (splice (splice rs i [r]) (i + 1) (((splice rs i [r]).drop k).take (n - k))) (i + 1 + (n - k)) c ∧ i + 1 + (n - k) + c.length ≤ cap) :
    ∃ zs, zz = (rs.take i ++ r :: (rs.take n).drop k) ++ zs ∧ i + 1 + (n - k) + zs.length = cap := by
  have l1 : (splice rs i [r]).length = cap := by rw [splice_len _ _ _ (by simp; omega), hrs]
  have m1 : ((splice rs i [r]).drop k).take (n - k) = (rs.take n).drop k := by
    rw [splice_drop_ge (by simp; omega) (by simp; omega), List.drop_take]
  have ml : ((rs.take n).drop k).length = n - k := by rw [List.length_drop, List.length_take]; omega
  rw [m1] at hz
  have l2 : (splice (splice rs i [r]) (i + 1) ((rs.take n).drop k)).length = cap := by rw [splice_len _ _ _ (by rw [l1, ml]; omega), l1]
  have t2 : (splice (splice rs i [r]) (i + 1) ((rs.take n).drop k)).take (i + 1 + (n - k)) = rs.take i ++ [r] ++ (rs.take n).drop k := by
    have h1 := splice_take_end (L := splice rs i [r]) (c := (rs.take n).drop k) (o := i + 1) (by omega)
    have h2 := splice_take_end (L := rs) (c := [r]) (o := i) (by omega)
    rw [ml] at h1
    rw [h1]
    congr 1
  have t3 : zz.take (i + 1 + (n - k)) = rs.take i ++ [r] ++ (rs.take n).drop k ∧ zz.length = cap := by
    rcases hz with rfl | ⟨c, rfl, hc⟩
    · exact ⟨t2, l2⟩
    · exact ⟨by rw [splice_take_lt (Nat.le_refl _) (by rw [l2]; omega)]; exact t2, by rw [splice_len _ _ _ (by rw [l2]; exact hc), l2]⟩
  refine ⟨zz.drop (i + 1 + (n - k)), ?_, ?_⟩
  · have e : rs.take i ++ r :: (rs.take n).drop k = rs.take i ++ [r] ++ (rs.take n).drop k := by simp
    rw [e, ← t3.1, List.take_append_drop]
  · rw [List.length_drop, t3.2]; omega

set_option maxRecDepth 100000 in
set_option maxHeartbeats 400000 in
theorem replace_mid {E E' : TypeId} (g h : Nat) (rs : List Rg) (r : Rg) (i k n cap : Nat) (w : World) (hik : i < k) (hkn : k < n) (hnc : n ≤ cap) (hrs : rs.length = cap) (hg : RowR E w g rs) (hh : RowR E' w h [r]) (ho : ∀ a ∈ rs.take n, oneR a) (hr1 : oneR r) (_hgh : g ≠ h) (hm : cap ≤ 9223372036854775807) :
    Calls Tryz.prog 383 #[.slice (some ⟨g, 0, none⟩) n cap, .int .i64 i, .int .i64 k, .slice (some ⟨h, 0, none⟩) 1 1] w
      fun e w' => e = .returned (.slice (some ⟨g, 0, none⟩) (i + 1 + (n - k)) cap) ∧ Head E w' g (rs.take i ++ r :: (rs.take n).drop k) cap ∧ Upd (fun k => k = g) w w' := by
  obtain ⟨i0, hi, hz0, hz1, hz2⟩ := info_parts infoR
  have HG := Lib.hid hg
  have HH := Lib.hid hh
  have HN := Lib.hid hrs
  have HO := Lib.hid ho
  have HR1 := Lib.hid hr1
  clear hg hh hrs ho hr1
  go_enter Tryz.func383, Tryz.ntmps383
  go_wp2_with fail
  go_quiet (fail)
  go_wp2_with (refine wpList_copy_at encR_len encR_one Tryz.underlying350 hi hz1 rfl (.tmp 95) (.tmp 96) 350 rfl (by exact HG.out) (by exact HH.out) i 0 1 rfl rfl rfl rfl ?c1 ?c2 ?c3 ?cp ?_)
  case c1 => omega
  case c2 => rw [HN.out]; omega
  case c3 => exact Nat.le_refl _
  case cp => intro a ha; simp at ha; subst ha; exact HR1.out
  intro W1 hW1 hU1
  have H1 := Lib.hid hW1
  have U1 := Lib.hid hU1
  have L1 := Lib.hid (show (splice rs i [r]).length = cap by rw [splice_len _ _ _ (by rw [HN.out]; simp; omega), HN.out])
  clear hW1 hU1
  go_wp2_with fail
  have f1 : IntKind.i64.wrap ((i : Int) + 1) = (i : Int) + 1 := IntWalk.i64_in _ (by omega)
  have f2 : ((i : Int) + 1).toNat = i + 1 := by omega
  have f3 : (0 : Int) ≤ (i : Int) + 1 := by omega
  have f4 : (i : Int) + 1 ≤ (i : Int) + 1 + ((n - k : Nat) : Int) := by omega
  have f5 : ¬ cap = i + 1 := by omega
  have f6 : ¬ cap = k := by omega
  have f7 : k ≤ n := by omega
  go_still_tail 9, (by kernel_rfl)
  change wpList _ _ _ _ _ W1.drew
  clear f1 f2 f3 f4 f5 f6 f7
  go_wp2_with (refine wpList_copy_at encR_len encR_one Tryz.underlying350 hi hz1 rfl (.tmp 103) (.tmp 106) 350 rfl (by exact H1.out) (by exact H1.out) (i + 1) k (n - k) rfl rfl rfl rfl ?d1 ?d2 ?d3 ?dp ?_)
  case d2 => rw [L1.out]; omega
  case d3 => rw [L1.out]; omega
  case dp =>
    intro a ha
    rw [splice_drop_ge (by rw [HN.out]; simp; omega) (by simp; omega)] at ha
    refine HO.out a ?_
    rw [← List.drop_take] at ha
    exact List.mem_of_mem_drop ha
  intro W2 hW2 hU2
  have H2 := Lib.hid hW2
  have U2 := Lib.hid hU2
  have L2 := Lib.hid (show (splice (splice rs i [r]) (i + 1) (((splice rs i [r]).drop k).take (n - k))).length = cap by rw [splice_len _ _ _ (by rw [L1.out, List.length_take, List.length_drop, L1.out]; omega), L1.out])
  clear hW2 hU2
  by_cases hx : i + 1 + (n - k) < cap
  · go_wp2_with (refine wpList_clear_at encR_len encR_one Tryz.underlying350 hi hz0 zeroR z0_one rfl (.tmp 110) rfl (by exact H2.out) (i + 1 + (n - k)) (n - (i + 1 + (n - k))) rfl rfl ?e1 ?_)
    case e1 => rw [L2.out]; omega
    intro W3 hW3 hU3
    have H3 := Lib.hid hW3
    have U3 := Lib.hid hU3
    clear hW3 hU3
    go_wp2
    go_ret
    refine ⟨rfl, ?_, ?_⟩
    · obtain ⟨zs, hzs, hlen⟩ := replace_rows (zz := splice (splice (splice rs i [r]) (i + 1) (((splice rs i [r]).drop k).take (n - k))) (i + 1 + (n - k)) (List.replicate (n - (i + 1 + (n - k))) z0)) hik hkn hnc HN.out (.inr ⟨_, rfl, by simp; omega⟩)
      exact ⟨zs, by rw [← hzs]; exact H3.out, by simp only [List.length_append, List.length_take, List.length_drop, List.length_cons, HN.out]; omega⟩
    · exact (((Upd.refl _ w).drewN nq).then U1.out).drew.then (U2.out.then U3.out)
  · have hcn : n = cap := by omega
    have hk1 : k = i + 1 := by omega
    have HC := Lib.hid hcn
    have HK := Lib.hid hk1
    clear hcn hk1
    go_wp2_with (refine wpList_clear_zero Tryz.underlying350 rfl (.tmp 110) rfl rfl ?e2 ?_)
    case e2 => have := HC.out; have := HK.out; omega
    go_wp2
    have hcap : i + 1 + (n - k) = cap := by omega
    go_ret
    refine ⟨rfl, ?_, ?_⟩
    · rw [hcap]
      obtain ⟨zs, hzs, hlen⟩ := replace_rows (zz := splice (splice rs i [r]) (i + 1) (((splice rs i [r]).drop k).take (n - k))) hik hkn hnc HN.out (.inl rfl)
      exact ⟨zs, by rw [← hzs]; exact H2.out, by simp only [List.length_append, List.length_take, List.length_drop, List.length_cons, HN.out]; omega⟩
    · exact (((Upd.refl _ w).drewN nq).then U1.out).drew.then U2.out
end Go.Proofs.YthknbcbkibbncaaGreat

/- DERIVED. Walk of slices.Replace at ranges: one element for at least one, up to the end. -/
namespace Go.Proofs.YthknbcbkibbncaaGreat
open Go.RowKit

theorem replace_rows2 {rs : List Rg} {r : Rg} {i n cap : Nat} {zz : List Rg} (hin : i < n) (hnc : n ≤ cap) (hrs : rs.length = cap)
    (hz : zz = splice rs i [r] ∨ ∃ c, zz = splice (splice rs i [r]) (i + 1) c ∧ i + 1 + c.length ≤ cap) :
    ∃ zs, zz = (rs.take i ++ [r]) ++ zs ∧ i + 1 + zs.length = cap := by
  have l1 : (splice rs i [r]).length = cap := by rw [splice_len _ _ _ (by simp; omega), hrs]
  have t1 : (splice rs i [r]).take (i + 1) = rs.take i ++ [r] := splice_take_end (L := rs) (c := [r]) (o := i) (by omega)
  have t3 : zz.take (i + 1) = rs.take i ++ [r] ∧ zz.length = cap := by
    rcases hz with rfl | ⟨c, rfl, hc⟩
    · exact ⟨t1, l1⟩
    · exact ⟨by rw [splice_take_lt (Nat.le_refl _) (by rw [l1]; omega)]; exact t1, by rw [splice_len _ _ _ (by rw [l1]; exact hc), l1]⟩
  refine ⟨zz.drop (i + 1), ?_, ?_⟩
  · rw [← t3.1, List.take_append_drop]
  · rw [List.length_drop, t3.2]; omega

set_option maxRecDepth 100000 in
set_option maxHeartbeats 400000 in
theorem replace_end {E E' : TypeId} (g h : Nat) (rs : List Rg) (r : Rg) (i n cap : Nat) (w : World) (hin : i < n) (hnc : n ≤ cap) (hrs : rs.length = cap) (hg : RowR E w g rs) (hh : RowR E' w h [r]) (hr1 : oneR r) (_hgh : g ≠ h) (_hm : cap ≤ 9223372036854775807) :
    Calls Tryz.prog 383 #[.slice (some ⟨g, 0, none⟩) n cap, .int .i64 i, .int .i64 n, .slice (some ⟨h, 0, none⟩) 1 1] w
      fun e w' => e = .returned (.slice (some ⟨g, 0, none⟩) (i + 1) cap) ∧ Head E w' g (rs.take i ++ [r]) cap ∧ Upd (fun k => k = g) w w' := by
  obtain ⟨i0, hi, hz0, hz1, hz2⟩ := info_parts infoR
  have HG := Lib.hid hg
  have HH := Lib.hid hh
  have HN := Lib.hid hrs
  have HR1 := Lib.hid hr1
  clear hg hh hrs hr1
  go_enter Tryz.func383, Tryz.ntmps383
  go_wp2_with (refine wpList_append_at encR_len encR_one Tryz.underlying350 hi hz1 rfl (.tmp 32) (.tmp 33) rfl (by exact HG.out) (by exact HH.out) 0 0 rfl rfl rfl rfl ?c1 ?c2 ?c3 ?cp ?_)
  case c1 => omega
  case c2 => rw [HN.out]; omega
  case c3 => exact Nat.le_refl _
  case cp => intro a ha; simp at ha; subst ha; exact HR1.out
  intro W1 hW1 hU1
  have H1 := Lib.hid (show Row encR W1 E g (splice rs i [r]) by simpa using hW1)
  have U1 := Lib.hid hU1
  have L1 := Lib.hid (show (splice rs i [r]).length = cap by rw [splice_len _ _ _ (by rw [HN.out]; simp; omega), HN.out])
  clear hW1 hU1
  by_cases hx : i + 1 < n
  · go_wp2_with (refine wpList_clear_at encR_len encR_one Tryz.underlying350 hi hz0 zeroR z0_one rfl (.tmp 43) rfl (by exact H1.out) (i + 1) (n - (i + 1)) rfl rfl ?e1 ?_)
    case e1 => rw [L1.out]; omega
    intro W3 hW3 hU3
    have H3 := Lib.hid hW3
    have U3 := Lib.hid hU3
    clear hW3 hU3
    go_wp2
    go_ret
    refine ⟨rfl, ?_, U1.out.then U3.out⟩
    obtain ⟨zs, hzs, hlen⟩ := replace_rows2 (zz := splice (splice rs i [r]) (i + 1) (List.replicate (n - (i + 1)) z0)) hin hnc HN.out (.inr ⟨_, rfl, by simp; omega⟩)
    exact ⟨zs, by rw [← hzs]; exact H3.out, by simp only [List.length_append, List.length_take, List.length_cons, List.length_nil, HN.out]; omega⟩
  · go_wp2
    go_ret
    refine ⟨rfl, ?_, U1.out⟩
    obtain ⟨zs, hzs, hlen⟩ := replace_rows2 (zz := splice rs i [r]) hin hnc HN.out (.inl rfl)
    exact ⟨zs, by rw [← hzs]; exact H1.out, by simp only [List.length_append, List.length_take, List.length_cons, List.length_nil, HN.out]; omega⟩
end Go.Proofs.YthknbcbkibbncaaGreat

/- DERIVED. Walk of slices.Insert at ranges: one element. -/
namespace Go.Proofs.YthknbcbkibbncaaGreat
open Go.RowKit

theorem insert_rows {rs : List Rg} {r : Rg} {i n cap : Nat} (hin : i ≤ n) (hnc : n < cap) (hrs : rs.length = cap) :
    ∃ zs, splice (splice rs (i + 1) ((rs.drop i).take (n - i))) i [r] = (rs.take i ++ r :: (rs.take n).drop i) ++ zs ∧ n + 1 + zs.length = cap := by
  have ml : ((rs.drop i).take (n - i)).length = n - i := by rw [List.length_take, List.length_drop]; omega
  have l1 : (splice rs (i + 1) ((rs.drop i).take (n - i))).length = cap := by rw [splice_len _ _ _ (by rw [ml]; omega), hrs]
  have l2 : (splice (splice rs (i + 1) ((rs.drop i).take (n - i))) i [r]).length = cap := by rw [splice_len _ _ _ (by rw [l1]; simp; omega), l1]
  have t1 : (splice rs (i + 1) ((rs.drop i).take (n - i))).take (n + 1) = rs.take (i + 1) ++ (rs.drop i).take (n - i) := by
    have := splice_take_end (L := rs) (c := (rs.drop i).take (n - i)) (o := i + 1) (by omega)
    rw [ml, show i + 1 + (n - i) = n + 1 by omega] at this
    exact this
  have t2 : (splice (splice rs (i + 1) ((rs.drop i).take (n - i))) i [r]).take (n + 1) = rs.take i ++ r :: (rs.take n).drop i := by
    have e : splice (splice rs (i + 1) ((rs.drop i).take (n - i))) i [r] = rs.take i ++ ([r] ++ (splice rs (i + 1) ((rs.drop i).take (n - i))).drop (i + 1)) := by
      have h0 : (splice rs (i + 1) ((rs.drop i).take (n - i))).take i = rs.take i := splice_take_lt (by omega) (by omega)
      unfold splice at h0 ⊢
      rw [h0]
      rfl
    have e2 : (splice rs (i + 1) ((rs.drop i).take (n - i))).drop (i + 1) = (rs.drop i).take (n - i) ++ rs.drop (n + 1) := by
      unfold splice
      rw [List.drop_append, List.drop_of_length_le (by rw [List.length_take]; omega), List.nil_append, show i + 1 - (rs.take (i + 1)).length = 0 by rw [List.length_take]; omega, List.drop_zero, ml, show i + 1 + (n - i) = n + 1 by omega]
    rw [e, e2, List.take_append, List.length_take, Nat.min_eq_left (by omega), List.take_take, Nat.min_eq_right (by omega), show n + 1 - i = (n - i) + 1 by omega]
    simp only [List.cons_append, List.nil_append, List.take_succ_cons]
    rw [List.take_append_of_le_length (by rw [ml]; omega), List.take_take, Nat.min_self, List.drop_take]
  refine ⟨(splice (splice rs (i + 1) ((rs.drop i).take (n - i))) i [r]).drop (n + 1), ?_, ?_⟩
  · rw [← t2, List.take_append_drop]
  · rw [List.length_drop, l2]; omega

theorem sizeR (w : World) : (Go.sizeOf 444).run Tryz.prog w = .ok 2 w := by
  obtain ⟨i0, hi, hz0, hz1, hz2⟩ := info_parts infoR
  simp [Go.sizeOf, typeInfo, hi, hz1]

theorem overlaps_not {E E' : TypeId} (g h : Nat) (rs : List Rg) (r : Rg) (o lb cb : Nat) (w : World) (hrs : 0 < rs.length) (hg : RowR E w g rs) (hh : RowR E' w h [r]) (hgh : g ≠ h) :
    (callFunc 437 #[.slice (some ⟨h, 0, none⟩) 1 1, .slice (some ⟨g, o, none⟩) lb cb]).run Tryz.prog w = .ok (.value (.bool false)) w := by
  rw [run_callFunc_extern Tryz.func437 (by kernel_rfl) (by kernel_rfl) (by kernel_rfl) (e := Extern.SlicesOverlaps.overlaps #[350, 350] #[4]) (by kernel_rfl),
    Lib.run_overlaps_apart w 350 4 444 Tryz.underlying350 2 sizeR ⟨h, 0, none⟩ ⟨g, o, none⟩ 1 1 lb cb (fun e => hgh e.symm) E' E 2 (rs.length * 2)
      (by simp [World.shape?, show w.heap[h]? = _ from hh, flat, encR]) (by simp [World.shape?, show w.heap[g]? = _ from hg, flat_length encR_len]) (by omega) (hh.free 0) (hh.free 2)]
  rfl

set_option maxRecDepth 100000 in
set_option maxHeartbeats 400000 in
theorem insert_shift {E E' : TypeId} (g h : Nat) (rs : List Rg) (r : Rg) (i n cap : Nat) (w : World) (hin : i < n) (hnc : n < cap) (hrs : rs.length = cap) (hg : RowR E w g rs) (hh : RowR E' w h [r]) (ho : ∀ a ∈ rs.take n, oneR a) (hr1 : oneR r) (hgh : g ≠ h) (hm : cap ≤ 9223372036854775807) :
    Calls Tryz.prog 436 #[.slice (some ⟨g, 0, none⟩) n cap, .int .i64 i, .slice (some ⟨h, 0, none⟩) 1 1] w
      fun e w' => e = .returned (.slice (some ⟨g, 0, none⟩) (n + 1) cap) ∧ Head E w' g (rs.take i ++ r :: (rs.take n).drop i) cap ∧ Upd (fun k => k = g) w w' := by
  obtain ⟨i0, hi, hz0, hz1, hz2⟩ := info_parts infoR
  have hov := fun o lb cb => overlaps_not g h rs r o lb cb w (by omega) hg hh hgh
  have HG := Lib.hid hg
  have HH := Lib.hid hh
  have HN := Lib.hid hrs
  have HO := Lib.hid ho
  have HR1 := Lib.hid hr1
  clear hg hh hrs ho hr1
  go_enter Tryz.func436, Tryz.ntmps436
  go_wp2_with (simp only [hov])
  go_wp2_with fail
  clear hov
  have f1 : IntKind.i64.wrap ((i : Int) + 1) = (i : Int) + 1 := IntWalk.i64_in _ (by omega)
  have f2 : ((i : Int) + 1).toNat = i + 1 := by omega
  have f3 : (0 : Int) ≤ (i : Int) + 1 := by omega
  have f4 : (i : Int) + 1 ≤ (n : Int) + 1 := by omega
  have f5 : ¬ cap = i + 1 := by omega
  have f6 : ¬ cap = i := by omega
  have f7 : i ≤ n + 1 := by omega
  have f8 : i ≤ n := by omega
  have f9 : (i : Int) ≤ (n : Int) + 1 := by omega
  go_still_tail 8, (by kernel_rfl)
  change wpList _ _ _ _ _ w.drew
  clear f1 f2 f3 f4 f5 f6 f7 f8 f9
  go_wp2_with (refine wpList_copy_at encR_len encR_one Tryz.underlying350 hi hz1 rfl (.tmp 73) (.tmp 76) 350 rfl (by exact HG.out) (by exact HG.out) (i + 1) i (n - i) rfl rfl rfl rfl ?d1 ?d2 ?d3 ?dp ?_)
  case d1 => omega
  case d2 => rw [HN.out]; omega
  case d3 => rw [HN.out]; omega
  case dp =>
    intro a ha
    refine HO.out a ?_
    rw [← show (rs.take n).drop i = (rs.drop i).take (n - i) from List.drop_take] at ha
    exact List.mem_of_mem_drop ha
  intro W1 hW1 hU1
  have H1 := Lib.hid hW1
  have U1 := Lib.hid hU1
  have HH1 := Lib.hid (hU1.keeps HH.out (fun e => hgh e.symm))
  have L1 := Lib.hid (show (splice rs (i + 1) ((rs.drop i).take (n - i))).length = cap by rw [splice_len _ _ _ (by rw [HN.out, List.length_take, List.length_drop, HN.out]; omega), HN.out])
  clear hW1 hU1
  go_wp2_with (refine wpList_copy_at encR_len encR_one Tryz.underlying350 hi hz1 rfl (.tmp 80) (.tmp 81) 350 rfl (by exact H1.out) (ss := [r]) (by exact HH1.out) i 0 1 rfl rfl rfl rfl ?e1 ?e2 ?e3 ?ep ?_)
  case e1 => omega
  case e2 => rw [L1.out]; omega
  case e3 => exact Nat.le_refl _
  case ep => intro a ha; simp at ha; subst ha; exact HR1.out
  intro W2 hW2 hU2
  have H2 := Lib.hid (show Row encR W2 E g (splice (splice rs (i + 1) ((rs.drop i).take (n - i))) i [r]) by simpa using hW2)
  have U2 := Lib.hid hU2
  clear hW2 hU2
  go_wp2
  go_ret
  refine ⟨rfl, ?_, ((Upd.refl _ w).drew.then U1.out).then U2.out⟩
  obtain ⟨zs, hzs, hlen⟩ := insert_rows (r := r) (Nat.le_of_lt hin) hnc HN.out
  exact ⟨zs, by rw [← hzs]; exact H2.out, by simp only [List.length_append, List.length_take, List.length_drop, List.length_cons, HN.out]; omega⟩

set_option maxRecDepth 100000 in
set_option maxHeartbeats 400000 in
theorem insert_end {E E' : TypeId} (g h : Nat) (rs : List Rg) (r : Rg) (n cap : Nat) (w : World) (hnc : n < cap) (hrs : rs.length = cap) (hg : RowR E w g rs) (hh : RowR E' w h [r]) (hr1 : oneR r) (hm : cap ≤ 9223372036854775807) :
    Calls Tryz.prog 436 #[.slice (some ⟨g, 0, none⟩) n cap, .int .i64 n, .slice (some ⟨h, 0, none⟩) 1 1] w
      fun e w' => e = .returned (.slice (some ⟨g, 0, none⟩) (n + 1) cap) ∧ Head E w' g (rs.take n ++ [r]) cap ∧ Upd (fun k => k = g) w w' := by
  obtain ⟨i0, hi, hz0, hz1, hz2⟩ := info_parts infoR
  have HG := Lib.hid hg
  have HH := Lib.hid hh
  have HN := Lib.hid hrs
  have HR1 := Lib.hid hr1
  clear hg hh hrs hr1
  go_enter Tryz.func436, Tryz.ntmps436
  go_wp2_with (refine wpList_append_at encR_len encR_one Tryz.underlying350 hi hz1 rfl (.tmp 23) (.tmp 24) rfl (by exact HG.out) (ss := [r]) (by exact HH.out) 0 0 rfl rfl rfl rfl ?c1 ?c2 ?c3 ?cp ?_)
  case c1 => omega
  case c2 => rw [HN.out]; omega
  case c3 => exact Nat.le_refl _
  case cp => intro a ha; simp at ha; subst ha; exact HR1.out
  intro W1 hW1 hU1
  have H1 := Lib.hid (show Row encR W1 E g (splice rs n [r]) by simpa using hW1)
  have U1 := Lib.hid hU1
  clear hW1 hU1
  go_wp2
  go_ret
  refine ⟨rfl, ?_, U1.out⟩
  refine ⟨rs.drop (n + 1), ?_, by simp only [List.length_append, List.length_take, List.length_drop, List.length_cons, List.length_nil, HN.out]; omega⟩
  have e : splice rs n [r] = rs.take n ++ [r] ++ rs.drop (n + 1) := by simp [splice]
  rw [← e]
  exact H1.out

def Fresh (w w' : World) (xs : List Rg) (e : Ending) : Prop := ∃ cap, e = .returned (.slice (some ⟨w.heap.size, 0, none⟩) xs.length cap) ∧ Head 444 w' w.heap.size xs cap ∧ cap ≤ 9223372036854775807 ∧ Below w.heap.size w w'

set_option maxRecDepth 100000 in
set_option maxHeartbeats 400000 in
theorem insert_end_grow {E E' : TypeId} (g h : Nat) (rs : List Rg) (r : Rg) (n : Nat) (w : World) (hrs : rs.length = n) (hg : RowR E w g rs) (hh : RowR E' w h [r]) (hm : (n + 1) * 16 ≤ 140737488355328) :
    Calls Tryz.prog 436 #[.slice (some ⟨g, 0, none⟩) n n, .int .i64 n, .slice (some ⟨h, 0, none⟩) 1 1] w
      fun e w' => Fresh w w' (rs ++ [r]) e := by
  obtain ⟨i0, hi, hz0, hz1, hz2⟩ := info_parts infoR
  have HG := Lib.hid hg
  have HH := Lib.hid hh
  have HN := Lib.hid hrs
  clear hg hh hrs
  go_enter Tryz.func436, Tryz.ntmps436
  go_wp2_with (refine wpList_append_fresh encR_len Tryz.underlying350 hi hz1 hz0 zeroR rfl (.tmp 23) (.tmp 24) rfl (by exact HG.out) (ss := [r]) (by exact HH.out) 0 0 rfl rfl rfl rfl ?c1 ?c2 ?c3 ?c4 ?c5 ?c6 ?_)
  case c1 => omega
  case c2 => rw [HN.out]; omega
  case c3 => exact Nat.le_refl _
  case c4 => omega
  case c5 => omega
  case c6 => rw [hz2]; omega
  intro W1 cap hW1 hc1 hc2 hB1 hsz
  have H1 := Lib.hid (show RowR 444 W1 w.heap.size ((rs ++ [r]) ++ List.replicate (cap - (n + 1)) z0) by
    have e : rs.take n = rs := List.take_of_length_le (by rw [HN.out]; omega)
    simpa [e] using hW1)
  have B1 := Lib.hid hB1
  have C1 := Lib.hid (show n + 1 ≤ cap ∧ cap ≤ 9223372036854775807 from ⟨hc1, hc2⟩)
  clear hW1 hc1 hc2 hB1 hsz
  go_wp2
  go_ret
  have hl : (rs ++ [r]).length = n + 1 := by simp [HN.out]
  exact ⟨cap, by rw [hl]; rfl, ⟨_, H1.out, by rw [hl, List.length_replicate]; have := C1.out; omega⟩, C1.out.2, B1.out⟩

set_option maxRecDepth 100000 in
set_option maxHeartbeats 400000 in
theorem insert_nil {E' : TypeId} (h : Nat) (r : Rg) (w : World) (hh : RowR E' w h [r]) :
    Calls Tryz.prog 436 #[.slice none 0 0, .int .i64 0, .slice (some ⟨h, 0, none⟩) 1 1] w
      fun e w' => Fresh w w' [r] e := by
  obtain ⟨i0, hi, hz0, hz1, hz2⟩ := info_parts infoR
  have HH := Lib.hid hh
  clear hh
  go_enter Tryz.func436, Tryz.ntmps436
  go_wp2_with (refine wpList_append_nil encR_len Tryz.underlying350 hi hz1 hz0 zeroR rfl (.tmp 23) (.tmp 24) rfl (ss := [r]) (by exact HH.out) 0 rfl rfl rfl ?c1 ?c2 ?c3 ?c4 ?_)
  case c1 => omega
  case c2 => exact Nat.le_refl _
  case c3 => omega
  case c4 => rw [hz2]; omega
  intro W1 cap hW1 hc1 hc2 hB1 hsz
  have H1 := Lib.hid (show RowR 444 W1 w.heap.size ([r] ++ List.replicate (cap - 1) z0) by simpa using hW1)
  have B1 := Lib.hid hB1
  have C1 := Lib.hid (show 1 ≤ cap ∧ cap ≤ 9223372036854775807 from ⟨hc1, hc2⟩)
  clear hW1 hc1 hc2 hB1 hsz
  go_wp2
  go_ret
  exact ⟨cap, rfl, ⟨_, H1.out, by rw [List.length_replicate]; have := C1.out; simp; omega⟩, C1.out.2, B1.out⟩

theorem grow_rows {rs Z : List Rg} {r : Rg} {i n cap : Nat} {z : Rg} (hin : i < n) (hnc : n + 1 ≤ cap) (hrs : rs.length = n) (hZ : Z = rs.take i ++ List.replicate (n + 1 - i + (cap - (n + 1))) z) :
    ∃ zs, splice (splice Z i [r]) (i + 1) ((rs.drop i).take (n - i)) = (rs.take i ++ r :: rs.drop i) ++ zs ∧ n + 1 + zs.length = cap := by
  have l0 : Z.length = cap := by rw [hZ]; simp; omega
  have e1 : (rs.drop i).take (n - i) = rs.drop i := List.take_of_length_le (by rw [List.length_drop]; omega)
  rw [e1]
  have ml : (rs.drop i).length = n - i := by rw [List.length_drop]; omega
  have l1 : (splice Z i [r]).length = cap := by rw [splice_len _ _ _ (by rw [l0]; simp; omega), l0]
  have l2 : (splice (splice Z i [r]) (i + 1) (rs.drop i)).length = cap := by rw [splice_len _ _ _ (by rw [l1, ml]; omega), l1]
  have t0 : Z.take i = rs.take i := by
    rw [hZ, List.take_append_of_le_length (by rw [List.length_take]; omega), List.take_take, Nat.min_self]
  have t1 : (splice Z i [r]).take (i + 1) = rs.take i ++ [r] := by
    have := splice_take_end (L := Z) (c := [r]) (o := i) (by rw [l0]; omega)
    rw [t0] at this
    exact this
  have t2 : (splice (splice Z i [r]) (i + 1) (rs.drop i)).take (n + 1) = rs.take i ++ r :: rs.drop i := by
    have := splice_take_end (L := splice Z i [r]) (c := rs.drop i) (o := i + 1) (by rw [l1]; omega)
    rw [ml, show i + 1 + (n - i) = n + 1 by omega, t1] at this
    rw [this]
    simp
  refine ⟨(splice (splice Z i [r]) (i + 1) (rs.drop i)).drop (n + 1), ?_, ?_⟩
  · rw [← t2, List.take_append_drop]
  · rw [List.length_drop, l2]; omega

set_option maxRecDepth 100000 in
set_option maxHeartbeats 400000 in
theorem insert_grow {E E' : TypeId} (g h : Nat) (rs : List Rg) (r : Rg) (i n : Nat) (w : World) (hin : i < n) (hrs : rs.length = n) (hg : RowR E w g rs) (hh : RowR E' w h [r]) (ho : ∀ a ∈ rs, oneR a) (hr1 : oneR r) (hm : (n + 1) * 16 ≤ 140737488355328) :
    Calls Tryz.prog 436 #[.slice (some ⟨g, 0, none⟩) n n, .int .i64 i, .slice (some ⟨h, 0, none⟩) 1 1] w
      fun e w' => Fresh w w' (rs.take i ++ r :: rs.drop i) e := by
  obtain ⟨i0, hi, hz0, hz1, hz2⟩ := info_parts infoR
  have HG := Lib.hid hg
  have HH := Lib.hid hh
  have HN := Lib.hid hrs
  have HO := Lib.hid ho
  have HR1 := Lib.hid hr1
  clear hg hh hrs ho hr1
  go_enter Tryz.func436, Tryz.ntmps436
  go_wp2_with (refine wpList_append_zeros encR_len (by decide) Tryz.underlying350 Tryz.underlying3 hi hz1 hz0 zeroR rfl (.tmp 34) (.tmp 39) rfl (by exact HG.out) 0 (m := n + 1 - i) rfl rfl ?c0 rfl ?c1 ?c2 ?c3 ?c4 ?c5 ?c6 ?_)
  case c0 => omega
  case c1 => omega
  case c2 => rw [HN.out]; omega
  case c3 => omega
  case c4 => omega
  case c5 => omega
  case c6 => rw [hz2]; omega
  intro W1 cap hW1 hc1 hc2 hB1 hsz
  rw [show i + (n + 1 - i) = n + 1 by omega] at hW1 hc1
  obtain ⟨Z, hZ⟩ : ∃ Z, Z = rs.take i ++ List.replicate (n + 1 - i + (cap - (n + 1))) (z0 : Rg) := ⟨_, rfl⟩
  rw [← hZ] at hW1
  have H1 := Lib.hid hW1
  have HZ := Lib.hid hZ
  have B1 := Lib.hid hB1
  have C1 := Lib.hid (show n + 1 ≤ cap ∧ cap ≤ 9223372036854775807 from ⟨hc1, hc2⟩)
  have L1 := Lib.hid (show Z.length = cap by rw [hZ]; simp [HN.out]; omega)
  have HG1 := Lib.hid (below_keeps hB1 HG.out (heap_lt HG.out))
  have HH1 := Lib.hid (below_keeps hB1 HH.out (heap_lt HH.out))
  have GS := Lib.hid (show g ≠ w.heap.size ∧ h ≠ w.heap.size from ⟨Nat.ne_of_lt (heap_lt HG.out), Nat.ne_of_lt (heap_lt HH.out)⟩)
  have SZ := Lib.hid hsz
  clear hW1 hB1 hsz hZ
  rw [show i + (n + 1 - i) = n + 1 by omega]
  go_wp2_with (refine wpList_copy_at encR_len encR_one Tryz.underlying350 hi hz1 rfl (.tmp 43) (.tmp 44) 350 rfl (by exact H1.out) (ss := [r]) (by exact HH1.out) i 0 1 rfl rfl rfl rfl ?d1 ?d2 ?d3 ?dp ?_)
  case d1 => omega
  case d2 => rw [L1.out]; omega
  case d3 => exact Nat.le_refl _
  case dp => intro a ha; simp at ha; subst ha; exact HR1.out
  intro W2 hW2 hU2
  have H2 := Lib.hid (show RowR 444 W2 w.heap.size (splice Z i [r]) from hW2)
  have U2 := Lib.hid hU2
  have HG2 := Lib.hid (hU2.keeps HG1.out GS.out.1)
  have L2 := Lib.hid (show (splice Z i [r]).length = cap by rw [splice_len _ _ _ (by rw [L1.out]; simp; omega), L1.out])
  clear hW2 hU2 HG1 HH1 H1
  go_wp2_with fail
  have f1 : IntKind.i64.wrap ((i : Int) + 1) = (i : Int) + 1 := IntWalk.i64_in _ (by omega)
  have f2 : ((i : Int) + 1).toNat = i + 1 := by omega
  have f3 : (0 : Int) ≤ (i : Int) + 1 := by omega
  have f4 : (i : Int) + 1 ≤ (n : Int) + 1 := by omega
  have f5 : ¬ cap = i + 1 := by omega
  have f6 : ¬ n = i := by omega
  have f8 : i ≤ n := by omega
  go_still_tail 8, (by kernel_rfl)
  change wpList _ _ _ _ _ W2.drew
  clear f1 f2 f3 f4 f5 f6 f8
  go_wp2_with (refine wpList_copy_at encR_len encR_one Tryz.underlying350 hi hz1 rfl (.tmp 50) (.tmp 53) 350 rfl (by exact H2.out) (ss := rs) (by exact HG2.out) (i + 1) i (n - i) rfl rfl rfl rfl ?e1 ?e2 ?e3 ?ep ?_)
  case e2 => rw [L2.out]; omega
  case e3 => rw [HN.out]; omega
  case ep => intro a ha; exact HO.out a (List.mem_of_mem_drop (List.mem_of_mem_take ha))
  intro W3 hW3 hU3
  have H3 := Lib.hid hW3
  have U3 := Lib.hid hU3
  clear hW3 hU3
  go_wp2
  go_ret
  obtain ⟨zs, hzs, hlen⟩ := grow_rows (r := r) hin C1.out.1 HN.out HZ.out
  have hl : (rs.take i ++ r :: rs.drop i).length = n + 1 := by simp [HN.out]; omega
  exact ⟨cap, by rw [hl]; rfl, ⟨zs, by rw [← hzs]; exact H3.out, by rw [hl]; exact hlen⟩, C1.out.2,
    (Upd.onto ((Upd.onto B1.out U2.out (by rw [SZ.out]; omega) (by intro j h1 h2; omega)).drew) U3.out (Nat.le_trans (by rw [SZ.out]; omega) U2.out.size) (by intro j h1 h2; omega))⟩
end Go.Proofs.YthknbcbkibbncaaGreat

/- DERIVED. slices.Insert and slices.Replace at ranges: one element put in the place of some, or none. -/
namespace Go.Proofs.YthknbcbkibbncaaGreat
open Go.RowKit

def Sl (E : TypeId) (w : World) (v : Value) (og : Option Nat) (xs : List Rg) : Prop :=
  (v = .slice none 0 0 ∧ xs = [] ∧ og = none) ∨
  ∃ g ys, og = some g ∧ v = .slice (some ⟨g, 0, none⟩) xs.length (xs.length + ys.length) ∧ RowR E w g (xs ++ ys) ∧ xs.length + ys.length ≤ 9223372036854775807
theorem Head.sl {E : TypeId} {w : World} {g cap n : Nat} {xs : List Rg} (h : Head E w g xs cap) (hc : cap ≤ 9223372036854775807) (hn : n = xs.length) : Sl E w (.slice (some ⟨g, 0, none⟩) n cap) (some g) xs := by
  obtain ⟨ys, h1, h2⟩ := h
  subst hn
  exact .inr ⟨g, ys, rfl, by rw [h2], h1, by omega⟩

def Repl (w : World) (og : Option Nat) (ys : List Rg) (e : Ending) (w' : World) : Prop :=
  ∃ v' og' E, e = .returned v' ∧ Sl E w' v' og' ys ∧ (og' = og ∨ ∃ g, og' = some g ∧ w.heap.size ≤ g) ∧ Upd (fun j => og = some j) w w'

theorem Repl.ofHead {w w' : World} {g n cap : Nat} {ys : List Rg} {e : Ending} (he : e = .returned (.slice (some ⟨g, 0, none⟩) n cap)) (hn : n = ys.length) {E : TypeId} (hh : Head E w' g ys cap) (hc : cap ≤ 9223372036854775807) (hu : Upd (fun k => k = g) w w') :
    Repl w (some g) ys e w' := ⟨_, some g, E, he, hh.sl hc hn, .inl rfl, hu.mono (fun _ _ x => by rw [x])⟩
theorem Repl.ofFresh {w w' : World} {og : Option Nat} {ys : List Rg} {e : Ending} (h : Fresh w w' ys e) : Repl w og ys e w' := by
  obtain ⟨cap, he, hh, hc, hb⟩ := h
  exact ⟨_, some w.heap.size, 444, he, hh.sl hc rfl, .inr ⟨_, rfl, Nat.le_refl _⟩, (Upd.below hb).mono (fun i hi h => by omega)⟩

theorem insert_any {E E' : TypeId} (v : Value) (og : Option Nat) (xs : List Rg) (i h : Nat) (r : Rg) (w : World) (hs : Sl E w v og xs) (ho : ∀ a ∈ xs, oneR a) (hr1 : oneR r) (hi : i ≤ xs.length) (hh : RowR E' w h [r]) (hne : og ≠ some h) (hm : (xs.length + 1) * 16 ≤ 140737488355328) :
    Calls Tryz.prog 436 #[v, .int .i64 i, .slice (some ⟨h, 0, none⟩) 1 1] w (Repl w og (xs.take i ++ r :: xs.drop i)) := by
  rcases hs with ⟨rfl, rfl, rfl⟩ | ⟨g, ys, rfl, rfl, hg, hl⟩
  · obtain rfl : i = 0 := by simpa using hi
    exact (insert_nil h r w hh).mono fun e w' hf => Repl.ofFresh hf
  · have hgh : g ≠ h := fun e => hne (by rw [e])
    have t1 : (xs ++ ys).take i = xs.take i := List.take_append_of_le_length hi
    have t2 : (xs ++ ys).take xs.length = xs := by rw [List.take_append_of_le_length (Nat.le_refl _), List.take_length]
    have hlen : xs.length + 1 = (xs.take i ++ r :: xs.drop i).length := by simp; omega
    by_cases hroom : 0 < ys.length
    · by_cases hin : i < xs.length
      · refine (insert_shift g h (xs ++ ys) r i xs.length (xs.length + ys.length) w hin (by omega) (by simp) hg hh (by simpa using ho) hr1 hgh hl).mono fun e w' ⟨he, hd, hu⟩ => ?_
        rw [t1, t2] at hd
        exact Repl.ofHead he hlen hd hl hu
      · obtain rfl : i = xs.length := by omega
        refine (insert_end g h (xs ++ ys) r xs.length (xs.length + ys.length) w (by omega) (by simp) hg hh hr1 hl).mono fun e w' ⟨he, hd, hu⟩ => ?_
        rw [t2] at hd
        have e1 : xs.take xs.length ++ r :: xs.drop xs.length = xs ++ [r] := by simp
        rw [e1]
        exact Repl.ofHead he (by simp) hd hl hu
    · obtain rfl : ys = [] := List.eq_nil_of_length_eq_zero (by omega)
      simp only [List.append_nil, List.length_nil, Nat.add_zero] at hg ⊢
      by_cases hin : i < xs.length
      · exact (insert_grow g h xs r i xs.length w hin rfl hg hh ho hr1 hm).mono fun e w' hf => Repl.ofFresh hf
      · obtain rfl : i = xs.length := by omega
        have e1 : xs.take xs.length ++ r :: xs.drop xs.length = xs ++ [r] := by simp
        rw [e1]
        exact (insert_end_grow g h xs r xs.length w rfl hg hh hm).mono fun e w' hf => Repl.ofFresh hf

set_option maxRecDepth 100000 in
set_option maxHeartbeats 400000 in
theorem replace_insert_nil (h : Nat) (w : World) (og : Option Nat) (ys : List Rg)
    (hi : Calls Tryz.prog 436 #[.slice none 0 0, .int .i64 0, .slice (some ⟨h, 0, none⟩) 1 1] w (Repl w og ys)) :
    Calls Tryz.prog 383 #[.slice none 0 0, .int .i64 0, .int .i64 0, .slice (some ⟨h, 0, none⟩) 1 1] w (Repl w og ys) := by
  have HI := Lib.hid hi
  clear hi
  go_enter Tryz.func383, Tryz.ntmps383
  go_wp2_with fail
  refine HI.out.mono ?_
  rintro e w' ⟨v, og', E0, rfl, h1, h2, h3⟩
  have HH := Lib.hid (show Repl w og ys (.returned v) w' from ⟨v, og', E0, rfl, h1, h2, h3⟩)
  clear h1 h2 h3 HI
  go_wp2
  go_ret
  exact HH.out

set_option maxRecDepth 100000 in
set_option maxHeartbeats 400000 in
theorem replace_insert (g n cap : Nat) (i h : Nat) (w : World) (og : Option Nat) (ys : List Rg) (hin : i ≤ n) (hnc : n ≤ cap) (_hcap : cap ≤ 9223372036854775807)
    (hi : Calls Tryz.prog 436 #[.slice (some ⟨g, 0, none⟩) n cap, .int .i64 i, .slice (some ⟨h, 0, none⟩) 1 1] w (Repl w og ys)) :
    Calls Tryz.prog 383 #[.slice (some ⟨g, 0, none⟩) n cap, .int .i64 i, .int .i64 i, .slice (some ⟨h, 0, none⟩) 1 1] w (Repl w og ys) := by
  by_cases hci : cap = i
  · subst hci
    have HI := Lib.hid hi
    clear hi
    go_enter Tryz.func383, Tryz.ntmps383
    go_wp2_with fail
    refine HI.out.mono ?_
    rintro e w' ⟨v, og', E0, rfl, h1, h2, h3⟩
    have HH := Lib.hid (show Repl w og ys (.returned v) w' from ⟨v, og', E0, rfl, h1, h2, h3⟩)
    clear h1 h2 h3 HI
    go_wp2
    go_ret
    exact HH.out
  · have HI := Lib.hid hi
    clear hi
    go_enter Tryz.func383, Tryz.ntmps383
    go_wp2_with fail
    refine HI.out.mono ?_
    rintro e w' ⟨v, og', E0, rfl, h1, h2, h3⟩
    have HH := Lib.hid (show Repl w og ys (.returned v) w' from ⟨v, og', E0, rfl, h1, h2, h3⟩)
    clear h1 h2 h3 HI
    go_wp2
    go_ret
    exact HH.out

theorem replace_any {E E' : TypeId} (v : Value) (og : Option Nat) (xs : List Rg) (i k h : Nat) (r : Rg) (w : World) (hs : Sl E w v og xs) (ho : ∀ a ∈ xs, oneR a) (hr1 : oneR r) (hi : i ≤ k) (hk : k ≤ xs.length) (hh : RowR E' w h [r]) (hne : og ≠ some h) (hm : (xs.length + 1) * 16 ≤ 140737488355328) :
    Calls Tryz.prog 383 #[v, .int .i64 i, .int .i64 k, .slice (some ⟨h, 0, none⟩) 1 1] w (Repl w og (xs.take i ++ r :: xs.drop k)) := by
  by_cases hik : i = k
  · subst hik
    have h1 := insert_any v og xs i h r w hs ho hr1 hk hh hne hm
    rcases hs with ⟨rfl, rfl, rfl⟩ | ⟨g, ys, rfl, rfl, hg, hl⟩
    · obtain rfl : i = 0 := by simpa using hk
      exact replace_insert_nil h w _ _ h1
    · exact replace_insert _ _ _ i h w _ _ hk (by omega) hl h1
  · rcases hs with ⟨rfl, rfl, rfl⟩ | ⟨g, ys, rfl, rfl, hg, hl⟩
    · simp at hk
      omega
    · have hgh : g ≠ h := fun e => hne (by rw [e])
      have t1 : (xs ++ ys).take i = xs.take i := List.take_append_of_le_length (by omega)
      have t2 : (xs ++ ys).take xs.length = xs := by rw [List.take_append_of_le_length (Nat.le_refl _), List.take_length]
      by_cases hkn : k < xs.length
      · refine (replace_mid g h (xs ++ ys) r i k xs.length (xs.length + ys.length) w (by omega) hkn (by omega) (by simp) hg hh (by simpa using ho) hr1 hgh hl).mono fun e w' ⟨he, hd, hu⟩ => ?_
        rw [t1, t2] at hd
        exact Repl.ofHead he (by simp; omega) hd hl hu
      · obtain rfl : k = xs.length := by omega
        refine (replace_end g h (xs ++ ys) r i xs.length (xs.length + ys.length) w (by omega) (by omega) (by simp) hg hh hr1 hgh hl).mono fun e w' ⟨he, hd, hu⟩ => ?_
        rw [t1] at hd
        have e1 : xs.take i ++ r :: xs.drop xs.length = xs.take i ++ [r] := by simp
        rw [e1]
        exact Repl.ofHead he (by simp; omega) hd hl hu
end Go.Proofs.YthknbcbkibbncaaGreat

/- DERIVED. slices.Replace of rows of two cells, by one element: what it does to our memory. -/
set_option linter.unusedVariables false
namespace Go.Proofs.YthknbcbkibbncaaGreat
namespace Ev
noncomputable def replB (vid : Id) (i j : Nat) (v : List AV) (s : AV) : M AV := match s with
  | .s0 => M.ifB (Nat.beq i 0 && Nat.beq j 0) (M.bind (M.new (zc false true false) v) fun id => M.pure (.so id 0 1 1 2))
  | .so id off n q w => M.ifB (((Nat.beq off 0 && Nat.ble 1 q) && Nat.beq w 2) && (Nat.ble i j && (Nat.ble j n && (Nat.ble n lim && !Nat.beq id.num vid.num)))) (M.bind (M.shared id) fun z => M.ifB (!z.s && z.b)
      (M.bind (M.rd id 0 (n * 2)) fun old => M.bind (M.over id 0 (i * 2) (v ++ old.drop (j * 2))) fun id =>
        M.pure (.so id 0 (i + 1 + (n - j)) (i + 1 + (n - j)) 2)))
  | _ => M.no
noncomputable def replV (s i j : AV) (v : AV) : M AV := match v with
  | .sl vid off n c => M.ifB (Nat.beq off 0 && (Nat.beq n 1 && Nat.beq c 1)) (M.ofO (nat64 i) fun i => M.ofO (nat64 j) fun j => M.bind (M.ends vid) fun zv => M.ifB ((!zv.1.s && Nat.beq zv.2 2) && (zv.1.b && zv.1.t)) (M.bind (M.rd vid 0 2) fun v => replB vid i j v s))
  | _ => M.no
noncomputable def replF (_k : Nat) (l : List AV) : M AV := match l with
  | [s, i, j, v] => replV s i j v
  | _ => M.no

theorem Loc.replB (vid : Id) (i j : Nat) (v : List AV) (s : AV) : Loc (replB vid i j v s) := by
  cases s <;> first
    | exact Loc.no
    | exact Loc.ifB (Loc.bind (Loc.new _ _) fun _ => Loc.pure _)
    | exact Loc.ifB (Loc.bind (Loc.shared _) fun _ => Loc.ifB (Loc.bind (Loc.rd _ _ _) fun _ => Loc.bind (Loc.over _ _ _ _) fun _ => Loc.pure _))
theorem Loc.replV (s i j v : AV) : Loc (replV s i j v) := by
  cases v <;> first
    | exact Loc.no
    | exact Loc.ifB (Loc.ofO fun _ => Loc.ofO fun _ => Loc.bind (Loc.ends _) fun _ => Loc.ifB (Loc.bind (Loc.rd _ _ _) fun _ => Loc.replB _ _ _ _ _))
theorem Loc.replF (k : Nat) (l : List AV) : Loc (replF k l) := by
  match l with
  | [] => exact Loc.no
  | [_] => exact Loc.no
  | [_, _] => exact Loc.no
  | [_, _, _] => exact Loc.no
  | [s, i, j, v] => exact Loc.replV s i j v
  | _ :: _ :: _ :: _ :: _ :: _ => exact Loc.no
namespace Kq
theorem Ref.replB (vid : Id) (i j : Nat) (v : List AV) (s : AV) : Ref Eq (Kq.replB vid i j v s) (Ev.replB vid i j v s) := by
  cases s <;> first
    | exact Ref.no
    | exact Ref.ifB (Ref.eqv (Ref.new _ _) fun _ => Ref.ret _)
    | exact Ref.ifB (Ref.eqv (Ref.shared _) fun _ => Ref.ifB (Ref.eqv (Ref.rd _ _ _) fun _ => Ref.eqv (Ref.over _ _ _ _) fun _ => Ref.ret _))
theorem Ref.replV (s i j v : AV) : Ref Eq (Kq.replV s i j v) (Ev.replV s i j v) := by
  cases v <;> first
    | exact Ref.no
    | exact Ref.ifB (Ref.ofO fun _ _ => Ref.ofO fun _ _ => Ref.eqv (Ref.ends _) fun _ => Ref.ifB (Ref.eqv (Ref.rd _ _ _) fun _ => Ref.replB _ _ _ _ _))
theorem Ref.replQ (k : Nat) (l : List AV) : Ref Eq (Kq.replQ k l) (Ev.replF k l) := by
  match l with
  | [] => exact Ref.no
  | [_] => exact Ref.no
  | [_, _] => exact Ref.no
  | [_, _, _] => exact Ref.no
  | [s, i, j, v] => exact Ref.replV s i j v
  | _ :: _ :: _ :: _ :: _ :: _ => exact Ref.no
end Kq
end Ev
end Go.Proofs.YthknbcbkibbncaaGreat

/- DERIVED. A call that leaves a block somewhere, in an old one's place or new: our memory after it. -/
set_option linter.unusedVariables false
namespace Go.Proofs.YthknbcbkibbncaaGreat
namespace Ev
open Go.RowKit

theorem HR.moved {β : Id → CA} {D : Id → Prop} {B : Nat} {h : Heap} {w w' : World} (hr : HR β D B h w) {id nid : Id} (hd : ¬ D nid) {a : CA} {k : Blk}
    (hkm : k.z.m = none) (hblk : ∃ c el fz, w'.heap[a.blk]? = some (.cells c el fz) ∧ c.size = a.lim ∧ fzok k.z.s fz c.size ∧ Cells β D c a.base k.c ∧ Zok k.z a k.c.length) (hB : B ≤ a.blk)
    (hoth : ∀ j kk, h j = some kk → j ≠ id → (β j).blk ≠ a.blk ∧ w'.heap[(β j).blk]? = w.heap[(β j).blk]?) (hsz : w.heap.size ≤ w'.heap.size) :
    HR (named β nid a) (fun j => D j ∨ j = nid) B (Heap.put (Heap.put h id none) nid (some k)) w' := by
  have hx := named_ext β (D := D) (id := nid) a hd
  have hold : ∀ j, D j → named β nid a j = β j := fun j hj => (hx.keep j hj).2
  have there : ∀ j kk, Heap.put (Heap.put h id none) nid (some k) j = some kk → (j = nid ∧ kk = k) ∨ (j ≠ id ∧ h j = some kk) := fun j kk hk => by
    by_cases e : j.num = nid.num
    · simp only [Heap.put, if_pos e] at hk
      cases hk
      exact .inl ⟨Id.num_inj e, rfl⟩
    · simp only [Heap.put, if_neg e] at hk
      by_cases e' : j.num = id.num
      · rw [if_pos e'] at hk; cases hk
      · rw [if_neg e'] at hk
        exact .inr ⟨fun x => e' (by rw [x]), hk⟩
  refine ⟨fun j kk hk => ?_, fun i j hi hj e => ?_, fun j hj => ?_, Nat.le_trans hr.size hsz⟩
  · rcases there j kk hk with ⟨rfl, rfl⟩ | ⟨hn, hj⟩
    · obtain ⟨c, el, fz, h1, h2, h3, h4, h5⟩ := hblk
      refine ⟨.inr rfl, ?_⟩
      unfold LiveB
      rw [hkm]
      refine ⟨c, el, fz, ?_, ?_, h3, ?_, ?_⟩
      · rw [named_same]; exact h1
      · rw [named_same]; exact h2
      · rw [named_same]; exact Cells.mono hx h4
      · rw [named_same]; exact h5
    · obtain ⟨h1, h2⟩ := hr.live j kk hj
      refine ⟨.inl h1, ?_⟩
      rw [hold j h1]
      exact h2.keep hx (hoth j kk hj hn).2
  · have ex : ∀ i, Heap.put (Heap.put h id none) nid (some k) i ≠ none → i = nid ∨ ∃ kk, i ≠ id ∧ h i = some kk := fun i hi => by
      cases hq : Heap.put (Heap.put h id none) nid (some k) i with
      | none => exact absurd hq hi
      | some kk =>
        rcases there i kk hq with ⟨x, _⟩ | ⟨x, y⟩
        · exact .inl x
        · exact .inr ⟨kk, x, y⟩
    rcases ex i hi with rfl | ⟨ki, ni, qi⟩
    · rcases ex j hj with rfl | ⟨kj, nj, qj⟩
      · rfl
      · rw [named_same, hold j (hr.live j kj qj).1] at e
        exact absurd e.symm (hoth j kj qj nj).1
    · rcases ex j hj with rfl | ⟨kj, nj, qj⟩
      · rw [named_same, hold i (hr.live i ki qi).1] at e
        exact absurd e (hoth i ki qi ni).1
      · rw [hold i (hr.live i ki qi).1, hold j (hr.live j kj qj).1] at e
        exact hr.inj i j (by rw [qi]; simp) (by rw [qj]; simp) e
  · rcases hj with hj | rfl
    · rw [hold j hj]; exact hr.old j hj
    · rw [named_same]; exact hB
end Ev
end Go.Proofs.YthknbcbkibbncaaGreat

/- DERIVED. Rows of pairs out of cells: for slices.Replace taken whole. -/
namespace Go.Proofs.YthknbcbkibbncaaGreat
namespace Ev
open Go.RowKit
theorem pairs_of : ∀ (m : Nat) (l : List Value), l.length = m * 2 → ∃ rs : List Rg, flat encR rs = l ∧ rs.length = m
  | 0, [], _ => ⟨[], rfl, rfl⟩
  | 0, _ :: _, h => by simp at h
  | m + 1, [], h => by simp at h
  | m + 1, [_], h => by simp at h; omega
  | m + 1, a :: b :: l, h => by
    obtain ⟨rs, h1, h2⟩ := pairs_of m l (by simp at h; omega)
    exact ⟨(a, b) :: rs, by rw [flat_cons, h1]; rfl, by simp [h2]⟩
theorem row_of {β : Id → CA} {D : Id → Prop} {B : Nat} {h : Heap} {w : World} (hr : HR β D B h w) {id : Id} {k : Blk} (hk : h id = some k) (hm0 : k.z.m = none) (hs : k.z.s = false) (hb : k.z.b = true) {m : Nat} (hm : (β id).lim = m * 2) :
    ∃ (rs : List Rg) (E : TypeId), RowR E w (β id).blk rs ∧ rs.length = m ∧ (β id).base = 0 ∧ Cells β D (flat encR rs).toArray 0 k.c := by
  obtain ⟨hd, c, el, fz, h1, h2, h3, h4, h5⟩ := hr.cells hk hm0
  rw [hs] at h3
  simp only [fzok] at h3
  subst h3
  have h0 := h5.b hb
  obtain ⟨rs, e1, e2⟩ := pairs_of m c.toList (by rw [← hm, ← h2]; simp)
  have e3 : (flat encR rs).toArray = c := by rw [e1]
  refine ⟨rs, el, ?_, e2, h0, ?_⟩
  · show w.heap[(β id).blk]? = _
    rw [e3]; exact h1
  · rw [e3, ← h0]; exact h4
theorem take_vrs {β : Id → CA} {D : Id → Prop} {rs : List Rg} {l : List AV} {n : Nat} (hc : Cells β D (flat encR rs).toArray 0 l) (hn : n * 2 ≤ l.length) : VRs β D (l.take (n * 2)) (flat encR (rs.take n)) := by
  have hf := hc.fit
  rw [← flat_take encR_len]
  refine VRs.of ?_ fun j x V h1 h2 => ?_
  · rw [List.length_take, List.length_take]
    simp at hf
    omega
  · rw [List.getElem?_take] at h1 h2
    split at h1
    · rename_i hj
      rw [if_pos hj] at h2
      obtain ⟨U, hU, hv⟩ := hc.get j x h1
      simp at hU
      rw [hU] at h2
      cases h2
      exact hv
    · cases h1
theorem take_one {β : Id → CA} {D : Id → Prop} {rs : List Rg} {l : List AV} {n : Nat} (hc : Cells β D (flat encR rs).toArray 0 l) (hn : n * 2 ≤ l.length) : ∀ a ∈ rs.take n, Go.Proofs.YthknbcbkibbncaaGreat.oneR a := by
  intro a ha
  have hv := take_vrs hc hn
  have h1 : ∀ V ∈ flat encR (rs.take n), V.oneCell' = true := fun V hV => by
    obtain ⟨j, hj⟩ := List.getElem?_of_mem hV
    obtain ⟨x, hx, hr⟩ := hv.back j V hj
    exact hr.one (hc.one x (List.mem_of_mem_take (List.mem_of_getElem? hx)))
  exact ⟨h1 a.1 (List.mem_flatMap.2 ⟨a, ha, by simp [encR]⟩), h1 a.2 (List.mem_flatMap.2 ⟨a, ha, by simp [encR]⟩)⟩
end Ev
end Go.Proofs.YthknbcbkibbncaaGreat
