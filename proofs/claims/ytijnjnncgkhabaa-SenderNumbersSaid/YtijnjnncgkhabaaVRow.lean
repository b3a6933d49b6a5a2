/- DERIVED. Rows of elements in a block that is known whole, and what copy, clear and append do to them. -/
import Derived.Test.YtijnjnncgkhabaaBase
import Derived.Laws.CopyRow
import Derived.Laws.CopyOwn
import Derived.Laws.Append
import Derived.Lib.SliceRun
import Derived.Lib.AppendZeros
namespace Go.Proofs.Ytijnjnncgkhabaa
open Go.RowKit

section
variable {α : Type} (enc : α → List Value)

def flat (l : List α) : List Value := l.flatMap enc
variable {enc}
theorem flat_nil : flat enc [] = [] := rfl
theorem flat_cons (a : α) (l : List α) : flat enc (a :: l) = enc a ++ flat enc l := rfl
theorem flat_append (l m : List α) : flat enc (l ++ m) = flat enc l ++ flat enc m := by simp [flat]
theorem flat_length {k : Nat} (h : ∀ a, (enc a).length = k) (l : List α) : (flat enc l).length = l.length * k := by
  induction l with
  | nil => simp [flat]
  | cons a l ih => rw [flat_cons, List.length_append, ih, h, List.length_cons, Nat.succ_mul]; omega
theorem flat_take {k : Nat} (h : ∀ a, (enc a).length = k) (l : List α) (n : Nat) : (flat enc l).take (n * k) = flat enc (l.take n) := by
  induction l generalizing n with
  | nil => simp [flat]
  | cons a l ih =>
    cases n with
    | zero => simp [flat]
    | succ n =>
      rw [List.take_succ_cons, flat_cons, flat_cons, Nat.succ_mul, List.take_append, h, Nat.add_sub_cancel, ih, List.take_of_length_le (by rw [h]; omega)]
theorem flat_drop {k : Nat} (h : ∀ a, (enc a).length = k) (l : List α) (n : Nat) : (flat enc l).drop (n * k) = flat enc (l.drop n) := by
  induction l generalizing n with
  | nil => simp [flat]
  | cons a l ih =>
    cases n with
    | zero => simp
    | succ n =>
      rw [List.drop_succ_cons, flat_cons, Nat.succ_mul, List.drop_append, h, Nat.add_sub_cancel, ih, List.drop_of_length_le (by rw [h]; omega), List.nil_append]
theorem flat_get {k : Nat} (h : ∀ a, (enc a).length = k) (l : List α) (i j : Nat) (hj : j < k) {a : α} (ha : l[i]? = some a) : (flat enc l)[i * k + j]? = (enc a)[j]? := by
  have h1 : (flat enc l).drop (i * k) = enc a ++ flat enc (l.drop (i + 1)) := by
    rw [flat_drop h, ← flat_cons]
    congr 1
    obtain ⟨hi, rfl⟩ := List.getElem?_eq_some_iff.1 ha
    exact List.drop_eq_getElem_cons hi
  have h2 : (flat enc l)[i * k + j]? = ((flat enc l).drop (i * k))[j]? := by rw [List.getElem?_drop]
  rw [h2, h1, List.getElem?_append_left (by rw [h]; exact hj)]
theorem splice_len {β : Type} (L : List β) (o : Nat) (cs : List β) (h : o + cs.length ≤ L.length) : (splice L o cs).length = L.length := length_splice L o cs h
theorem flat_splice {k : Nat} (h : ∀ a, (enc a).length = k) (l : List α) (o : Nat) (cs : List α) : splice (flat enc l) (o * k) (flat enc cs) = flat enc (splice l o cs) := by
  unfold splice
  rw [flat_take h, flat_length h, ← Nat.add_mul, flat_drop h, flat_append, flat_append]
theorem flat_one (l : List α) (h1 : ∀ a ∈ l, ∀ v ∈ enc a, v.oneCell' = true) : ∀ v ∈ flat enc l, v.oneCell' = true := by
  intro v hv
  obtain ⟨a, hm, ha⟩ := List.mem_flatMap.1 hv
  exact h1 a hm v ha
theorem flat_replicate_zero {k : Nat} {z : Array Value} {a : α} (h : (enc a).length = k) (hz : z.toList = enc a) (n : Nat) : (Builtin.zeroCells z n).toList = flat enc (List.replicate n a) := by
  have hzs : z.size = k := by rw [← h, ← hz]; simp
  unfold Builtin.zeroCells
  apply List.ext_getElem?
  intro i
  rw [hzs]
  simp only [Array.toList_map, Array.toList_range, List.getElem?_map]
  by_cases hi : i < n * k
  · rw [List.getElem?_range hi]
    have hk : 0 < k := Nat.pos_of_ne_zero (by rintro rfl; omega)
    have e := Nat.div_add_mod i k
    have hd : i / k < n := Nat.div_lt_of_lt_mul (by rw [Nat.mul_comm]; exact hi)
    have hm := Nat.mod_lt i hk
    have hall : ∀ m, m < n → (List.replicate n a)[m]? = some a := fun m hm => by simp [hm]
    have key : ∀ (l : List α), (∀ b ∈ l, b = a) → i / k < l.length → (flat enc l)[i / k * k + i % k]? = (enc a)[i % k]? := by
      intro l
      generalize i / k = q
      induction l generalizing q with
      | nil => intro _ hq; simp at hq
      | cons b l ih =>
        intro hb hq
        obtain rfl := hb b (by simp)
        rw [flat_cons]
        cases q with
        | zero => rw [Nat.zero_mul, Nat.zero_add, List.getElem?_append_left (by rw [h]; exact hm)]
        | succ q =>
          rw [List.getElem?_append_right (by rw [h, Nat.succ_mul]; omega), h, show (q + 1) * k + i % k - k = q * k + i % k from by rw [Nat.succ_mul]; omega]
          exact ih q (fun c hc => hb c (by simp [hc])) (by simpa using hq)
    have hkey := key (List.replicate n a) (fun b hb => List.eq_of_mem_replicate hb) (by simpa using hd)
    rw [Nat.mul_comm, e] at hkey
    rw [hkey, ← hz]
    simp only [Option.map_some, Array.getElem?_toList]
    rw [getElem!_pos z (i % k) (by omega), Array.getElem?_eq_getElem (by omega)]
  · rw [List.getElem?_eq_none (by simpa using hi), List.getElem?_eq_none (by
      have : ∀ l : List α, (∀ b ∈ l, b = a) → (flat enc l).length = l.length * k := by
        intro l hl
        induction l with
        | nil => simp [flat]
        | cons b l ih =>
          obtain rfl := hl b (by simp)
          rw [flat_cons, List.length_append, ih (fun c hc => hl c (by simp [hc])), h, List.length_cons, Nat.succ_mul]; omega
      rw [this _ (fun b hb => List.eq_of_mem_replicate hb)]
      simpa using hi)]
    rfl

/-- Block g is a row that holds these elements, spare room and all. -/
def Row (enc : α → List Value) (w : World) (E : TypeId) (g : Nat) (rs : List α) : Prop := w.heap[g]? = some (.cells (flat enc rs).toArray E (0, 0))
def setR (enc : α → List Value) (w : World) (g : Nat) (rs : List α) : World := w.setRow g (flat enc rs).toArray

theorem Row.set {w : World} {E : TypeId} {g : Nat} {rs : List α} (h : Row enc w E g rs) (ss : List α) : Row enc (setR enc w g ss) E g ss := setRow_heap w g _ _ E _ h
theorem setR_other (w : World) (g : Nat) (ss : List α) {j : Nat} (h : j ≠ g) : (setR enc w g ss).heap[j]? = w.heap[j]? := setRow_other w g j _ h
theorem setR_upd (w : World) (g : Nat) (ss : List α) : Upd (fun k => k = g) w (setR enc w g ss) := ⟨rfl, rfl, rfl, by simp [setR], fun k _ hn => setR_other w g ss hn⟩
theorem setR_size (w : World) (g : Nat) (ss : List α) : (setR enc w g ss).heap.size = w.heap.size := by simp [setR]
theorem setR_setR (w : World) (g : Nat) (a b : List α) : setR enc (setR enc w g a) g b = setR enc w g b := setRow_setRow w g _ _
theorem setR_drew (w : World) (g : Nat) (a : List α) : setR enc w.drew g a = (setR enc w g a).drew := rfl
theorem Row.self {w : World} {E : TypeId} {g : Nat} {rs : List α} (h : Row enc w E g rs) : setR enc w g rs = w := setRow_self w g _ E _ h

theorem Row.cell {w : World} {E : TypeId} {g : Nat} {rs : List α} (h : Row enc w E g rs) (j : Nat) : w.cell? ⟨g, j, none⟩ = (flat enc rs)[j]? := by
  rw [cell_at h]
  simp
theorem Row.el {w : World} {E : TypeId} {g : Nat} {rs : List α} (h : Row enc w E g rs) {k : Nat} (hk : ∀ a, (enc a).length = k) (i j : Nat) (hj : j < k) {a : α} (ha : rs[i]? = some a) : w.cell? ⟨g, i * k + j, none⟩ = (enc a)[j]? := by
  rw [h.cell, flat_get hk rs i j hj ha]
theorem Row.free {w : World} {E : TypeId} {g : Nat} {rs : List α} (h : Row enc w E g rs) (j : Nat) : w.frozen? ⟨g, j, none⟩ = false := free_at h j

theorem add_lit' (b o j : Nat) : (⟨b, o, none⟩ : Addr).add j = ⟨b, o + j, none⟩ := by
  unfold Addr.add
  split <;> simp_all
/-- The cells of some elements from place q on. -/
theorem Row.src {w : World} {E : TypeId} {g : Nat} {rs : List α} (h : Row enc w E g rs) {k : Nat} (hk : ∀ a, (enc a).length = k) (q n : Nat) (hq : q + n ≤ rs.length) :
    ∀ j v, (flat enc ((rs.drop q).take n))[j]? = some v → w.cell? ((⟨g, q * k, none⟩ : Addr).add j) = some v := by
  intro j v hv
  rw [add_lit', h.cell, ← hv, ← flat_take hk, ← flat_drop hk]
  have hj : j < n * k := by
    rcases Nat.lt_or_ge j (n * k) with h' | h'
    · exact h'
    · rw [List.getElem?_eq_none (by rw [flat_length hk, List.length_take, List.length_drop, Nat.min_eq_left (by omega)]; exact h')] at hv
      cases hv
  rw [List.getElem?_take_of_lt hj, List.getElem?_drop]

section
variable {P : Program} (w : World) {k : Nat} {e dT : TypeId} {i : TypeInfo}

theorem run_store_row (hk : ∀ a, (enc a).length = k) {p : α → Prop} (h1 : ∀ a, p a → ∀ v ∈ enc a, v.oneCell' = true) {E : TypeId} {g : Nat} {rs : List α} (h : Row enc w E g rs) (o : Nat) (cs : List α) (hp : ∀ a ∈ cs, p a) (hfit : o + cs.length ≤ rs.length) :
    (storeCells ⟨g, o * k, none⟩ (flat enc cs)).run P w = .ok () (setR enc w g (splice rs o cs)) := by
  have hl : (flat enc rs).toArray.size = rs.length * k := by simp [flat_length hk]
  have := run_storeCells_at (P := P) g (o * k) E (flat enc cs) 0 _ w h (by
    rw [hl, flat_length hk]
    have := Nat.mul_le_mul_right k hfit
    rw [Nat.add_mul] at this
    omega) (flat_one cs fun a ha => h1 a (hp a ha))
  rw [this]
  unfold setR
  rw [← flat_splice hk]
  simp only [splice, Nat.add_zero, List.append_assoc]

/-- copy(d, s) of at least one element. -/
theorem run_copy_row (hk : ∀ a, (enc a).length = k) {p : α → Prop} (h1 : ∀ a, p a → ∀ v ∈ enc a, v.oneCell' = true) (hu : P.underlying dT = some (.slice e)) (hi : P.info? e = some i) (hz : i.size = k) (sT ty : TypeId)
    {E : TypeId} {g : Nat} {rs : List α} (h : Row enc w E g rs) {h' : Nat} {ss : List α} {E' : TypeId} (hs : Row enc w E' h' ss) (o q dLen dCap sLen sCap n : Nat) (hn : Nat.min sLen dLen = n) (hfit : o + n ≤ rs.length) (hq : q + n ≤ ss.length) (hp : ∀ a ∈ (ss.drop q).take n, p a) :
    (Builtin.copy_ #[dT, sT] ty #[.slice (some ⟨g, o * k, none⟩) dLen dCap, .slice (some ⟨h', q * k, none⟩) sLen sCap]).run P w = .ok (goInt n) (setR enc w g (splice rs o ((ss.drop q).take n))) := by
  have hcl : ((ss.drop q).take n).length = n := by rw [List.length_take, List.length_drop]; omega
  have hf := run_firstCells_some (P := P) w k n ⟨h', q * k, none⟩ sLen sCap (flat enc ((ss.drop q).take n)) (by rw [flat_length hk, hcl]) (hs.src hk q n hq)
  have hst := run_store_row (P := P) w hk h1 h o ((ss.drop q).take n) hp (by rw [hcl]; exact hfit)
  simp [Builtin.copy_, run_underlying hu, sizeOf, typeInfo, hi, hz, Builtin.lenOf, hn, hf, hst]

/-- copy(d, s) of nothing. -/
theorem run_copy_none (hu : P.underlying dT = some (.slice e)) (hi : P.info? e = some i) (sT ty : TypeId) (db sb : Option Addr) (dLen dCap sLen sCap : Nat) (hn : Nat.min sLen dLen = 0) :
    (Builtin.copy_ #[dT, sT] ty #[.slice db dLen dCap, .slice sb sLen sCap]).run P w = .ok (goInt 0) w := by
  have hl : ∀ a : Addr, (loadCells a 0).run P w = .ok #[] w := fun a => by simp [loadCells, loadCellsFrom]
  cases db <;> cases sb <;> simp [Builtin.copy_, run_underlying hu, sizeOf, typeInfo, hi, Builtin.lenOf, hn, Builtin.firstCells, storeCells, hl]

/-- clear(s). -/
theorem run_clear_row (hk : ∀ a, (enc a).length = k) {p : α → Prop} (h1 : ∀ a, p a → ∀ v ∈ enc a, v.oneCell' = true) (hu : P.underlying dT = some (.slice e)) (hi : P.info? e = some i) {z : Value} (hz : i.zero = some z) {a0 : α} (ha0 : z.cells.toList = enc a0) (ty : TypeId)
    {E : TypeId} {g : Nat} {rs : List α} (h : Row enc w E g rs) (hp : p a0) (o n c : Nat) (hfit : o + n ≤ rs.length) :
    (Builtin.clear_ #[dT] ty #[.slice (some ⟨g, o * k, none⟩) n c]).run P w = .ok (.tuple #[]) (setR enc w g (splice rs o (List.replicate n a0))) := by
  have hst := run_store_row (P := P) w hk h1 h o (List.replicate n a0) (fun a ha => by rw [(List.mem_replicate.1 ha).2]; exact hp) (by simpa using hfit)
  have hzc := flat_replicate_zero (hk a0) ha0 n
  cases n with
  | zero =>
    simp only [List.replicate_zero, splice, List.nil_append, List.length_nil, Nat.add_zero, List.take_append_drop]
    rw [h.self]
    simp [Builtin.clear_, run_underlying hu]
  | succ n => simp [Builtin.clear_, run_underlying hu, zeroValue, typeInfo, hi, hz, hzc, hst]
theorem run_clear_none (hu : P.underlying dT = some (.slice e)) (ty : TypeId) (db : Option Addr) (c : Nat) : (Builtin.clear_ #[dT] ty #[.slice db 0 c]).run P w = .ok (.tuple #[]) w := by
  cases db <;> simp [Builtin.clear_, run_underlying hu]

/-- append(s, x...) where there is room. -/
theorem run_append_row (hk : ∀ a, (enc a).length = k) {p : α → Prop} (h1 : ∀ a, p a → ∀ v ∈ enc a, v.oneCell' = true) (hu : P.underlying dT = some (.slice e)) (hi : P.info? e = some i) (hz : i.size = k) (ty : TypeId)
    {E : TypeId} {g : Nat} {rs : List α} (h : Row enc w E g rs) {h' : Nat} {ss : List α} {E' : TypeId} (hs : Row enc w E' h' ss) (o q sLen sCap m c : Nat) (hroom : sLen + m ≤ sCap) (hfit : o + sLen + m ≤ rs.length) (hq : q + m ≤ ss.length) (hp : ∀ a ∈ (ss.drop q).take m, p a) :
    (Builtin.append_ #[dT, dT] ty #[.slice (some ⟨g, o * k, none⟩) sLen sCap, .slice (some ⟨h', q * k, none⟩) m c]).run P w =
      .ok (.slice (some ⟨g, o * k, none⟩) (sLen + m) sCap) (setR enc w g (splice rs (o + sLen) ((ss.drop q).take m))) := by
  have hcl : ((ss.drop q).take m).length = m := by rw [List.length_take, List.length_drop]; omega
  have hf := run_firstCells_some (P := P) w k m ⟨h', q * k, none⟩ m c (flat enc ((ss.drop q).take m)) (by rw [flat_length hk, hcl]) (hs.src hk q m hq)
  have hst := run_store_row (P := P) w hk h1 h (o + sLen) ((ss.drop q).take m) hp (by rw [hcl]; exact hfit)
  have ha : (⟨g, o * k, none⟩ : Addr).add (sLen * k) = ⟨g, (o + sLen) * k, none⟩ := by rw [add_lit', Nat.add_mul]
  simp [Builtin.append_, run_underlying hu, sizeOf, typeInfo, hi, hz, Builtin.lenOf, hroom, hf, ha, hst]

/-- append(s, x...) where there is none. -/
theorem run_append_new (hk : ∀ a, (enc a).length = k) (hu : P.underlying dT = some (.slice e)) (hi : P.info? e = some i) (hz : i.size = k) {z : Value} (hzz : i.zero = some z) {a0 : α} (ha0 : z.cells.toList = enc a0) (ty : TypeId)
    {E : TypeId} {g : Nat} {rs : List α} (h : Row enc w E g rs) {h' : Nat} {ss : List α} {E' : TypeId} (hs : Row enc w E' h' ss) (o q sLen sCap m c : Nat) (hroom : sCap < sLen + m) (hfit : o + sLen ≤ rs.length) (hq : q + m ≤ ss.length)
    (hc : sLen ≤ sCap) (h63 : sLen + m ≤ 9223372036854775807) (hbytes : (sLen + m) * i.bytes ≤ 140737488355328) :
    ∃ cap, sLen + m ≤ cap ∧ cap ≤ 9223372036854775807 ∧ (Builtin.append_ #[dT, dT] ty #[.slice (some ⟨g, o * k, none⟩) sLen sCap, .slice (some ⟨h', q * k, none⟩) m c]).run P w =
      .ok (.slice (some ⟨w.heap.size, 0, none⟩) (sLen + m) cap) (w.drew.alloc (.cells (flat enc ((rs.drop o).take sLen ++ (ss.drop q).take m ++ List.replicate (cap - (sLen + m)) a0)).toArray e)) := by
  have hr := run_append_grow (P := P) w dT ty e i z hu hi hzz ⟨g, o * k, none⟩ sLen sCap (flat enc ((rs.drop o).take sLen)) (by rw [flat_length hk, hz, List.length_take, List.length_drop, Nat.min_eq_left (by omega)])
    (h.src hk o sLen hfit) ⟨h', q * k, none⟩ m c (flat enc ((ss.drop q).take m)) (by rw [flat_length hk, hz, List.length_take, List.length_drop, Nat.min_eq_left (by omega)]) (hs.src hk q m hq) hroom (by omega)
    (growslice_fits (by omega) hbytes)
  refine ⟨grownCap w (sLen + m) sCap e, grownCap_ge _ _ _ _, grownCap_le_maxLen _ _ _ _ (by unfold maxLen; omega), ?_⟩
  rw [hr]
  congr 3
  rw [flat_append, flat_append, ← flat_replicate_zero (hk a0) ha0]
  simp

/-- append(nil, x...). -/
theorem run_append_onto_nil (hk : ∀ a, (enc a).length = k) (hu : P.underlying dT = some (.slice e)) (hi : P.info? e = some i) (hz : i.size = k) {z : Value} (hzz : i.zero = some z) {a0 : α} (ha0 : z.cells.toList = enc a0) (ty : TypeId)
    {h' : Nat} {ss : List α} {E' : TypeId} (hs : Row enc w E' h' ss) (q m c : Nat) (hm : 0 < m) (hq : q + m ≤ ss.length) (h63 : m ≤ 9223372036854775807) (hbytes : m * i.bytes ≤ 140737488355328) :
    ∃ cap, m ≤ cap ∧ cap ≤ 9223372036854775807 ∧ (Builtin.append_ #[dT, dT] ty #[.slice none 0 0, .slice (some ⟨h', q * k, none⟩) m c]).run P w =
      .ok (.slice (some ⟨w.heap.size, 0, none⟩) m cap) (w.drew.alloc (.cells (flat enc ((ss.drop q).take m ++ List.replicate (cap - m) a0)).toArray e)) := by
  have hr := run_append_nil (P := P) w dT ty e i z hu hi hzz ⟨h', q * k, none⟩ m c (flat enc ((ss.drop q).take m)) (by rw [flat_length hk, hz, List.length_take, List.length_drop, Nat.min_eq_left (by omega)]) (hs.src hk q m hq) hm (by omega) (by omega)
  refine ⟨grownCap w m 0 e, grownCap_ge _ _ _ _, grownCap_le_maxLen _ _ _ _ (by unfold maxLen; omega), ?_⟩
  rw [hr]
  congr 3
  rw [flat_append, ← flat_replicate_zero (hk a0) ha0]
  simp

/-- append(s, make([]T, m)...) where there is no room. -/
theorem run_append_zeros_new (hk : ∀ a, (enc a).length = k) (hk0 : 0 < k) (hu : P.underlying dT = some (.slice e)) {nT : TypeId} {kn : IntKind} (hn : P.underlying nT = some (.int kn)) (hi : P.info? e = some i) (hz : i.size = k) {z : Value} (hzz : i.zero = some z) {a0 : α} (ha0 : z.cells.toList = enc a0) (ty : TypeId)
    {E : TypeId} {g : Nat} {rs : List α} (h : Row enc w E g rs) (o sLen sCap m : Nat) (kn' : IntKind) (hroom : sCap < sLen + m) (hfit : o + sLen ≤ rs.length) (hm : 0 < m)
    (hc : sLen ≤ sCap) (h63 : sLen + m ≤ 9223372036854775807) (hbytes : (sLen + m) * i.bytes ≤ 140737488355328) :
    ∃ cap, sLen + m ≤ cap ∧ cap ≤ 9223372036854775807 ∧ (Builtin.append_ #[dT, nT] ty #[.slice (some ⟨g, o * k, none⟩) sLen sCap, .int kn' m]).run P w =
      .ok (.slice (some ⟨w.heap.size, 0, none⟩) (sLen + m) cap) (w.drew.alloc (.cells (flat enc ((rs.drop o).take sLen ++ List.replicate m a0 ++ List.replicate (cap - (sLen + m)) a0)).toArray e)) := by
  refine ⟨grownCap w (sLen + m) sCap e, grownCap_ge _ _ _ _, grownCap_le_maxLen _ _ _ _ (by unfold maxLen; omega), ?_⟩
  have hn' : ¬ (sLen + m ≤ sCap) := by omega
  have hw : IntKind.i64.wrap (m : Int) = m := by rw [IntKind.wrap_i64]; omega
  have h63' : ¬ (9223372036854775807 < ((sLen : Int) + max (m : Int) 0)) := by omega
  have h63'' : ¬ (9223372036854775807 < ((sLen : Int) + (m : Int))) := by omega
  have hfit2 : Builtin.nextslicecap (sLen + m) sCap * i.bytes ≤ 281474976710656 := growslice_fits (by omega) hbytes
  have h48' : ¬ (281474976710656 < Builtin.nextslicecap (sLen + m) sCap * i.bytes) := by omega
  have h48i : ¬ (281474976710656 < (m : Int) * (i.bytes : Int)) := by
    rw [← Int.natCast_mul]
    have : m * i.bytes ≤ (sLen + m) * i.bytes := Nat.mul_le_mul_right _ (by omega)
    omega
  have hneg : ¬ ((m : Int) < 0) := by omega
  have hns : ¬ (m * k = 0) := Nat.mul_ne_zero (by omega) (by omega)
  have hfo := run_firstCells_some (P := P) w.drew k sLen ⟨g, o * k, none⟩ sLen sCap (flat enc ((rs.drop o).take sLen)) (by rw [flat_length hk, List.length_take, List.length_drop, Nat.min_eq_left (by omega)])
    (by simpa using h.src hk o sLen hfit)
  have e1 : (flat enc ((rs.drop o).take sLen ++ List.replicate m a0 ++ List.replicate (grownCap w (sLen + m) sCap e - (sLen + m)) a0)).toArray =
      (flat enc ((rs.drop o).take sLen)).toArray ++ Builtin.zeroCells z.cells m ++ Builtin.zeroCells z.cells (grownCap w (sLen + m) sCap e - (sLen + m)) := by
    rw [flat_append, flat_append, ← flat_replicate_zero (hk a0) ha0, ← flat_replicate_zero (hk a0) ha0]
    simp
  rw [e1]
  simp [Builtin.append_, run_underlying hu, run_underlying hn, sizeOf, typeInfo, zeroValue, hi, hz, hzz, asInt, asIntOf, hw, hn', hneg, hns, h63'', h48', h48i, Question.forced, hfo, newRow, grownCap]
end
end

section
variable {P : Program} (w : World)
theorem wp_copy_run {o : Oper} {a : Act} {K : Act → World → Prop} {Q : Exit → Act → World → Prop} (d s : Operand) (t t' : TypeId)
    (ho : o.op = .call { callee := .builtin .copy, args := #[d, s], argTypes := #[t, t'] }) (v u : Value) (hd : a.eval d = v) (hs : a.eval s = u) {v' : Value} {w' : World}
    (hr : (Builtin.copy_ #[t, t'] o.type #[v, u]).run P w = .ok v' w') (h : K (a.put o.dst v') w') : o.wp P a w K Q := by
  unfold Oper.wp execOp
  simp only [ho, resolve, invoke, builtin, Sem.run_bind, Sem.run_pure, Result.andThen_ok, List.map_toArray, List.map_cons, List.map_nil, hd, hs, hr]
  exact h
theorem wpList_copy_run {ops : Array Oper} {rest : List Oper} {o : Oper} {a : Act} {Q : Exit → Act → World → Prop} (hgd : o.guard = none) (d s : Operand) (t t' : TypeId)
    (ho : o.op = .call { callee := .builtin .copy, args := #[d, s], argTypes := #[t, t'] }) (v u : Value) (hd : a.eval d = v) (hs : a.eval s = u) {v' : Value} {w' : World}
    (hr : (Builtin.copy_ #[t, t'] o.type #[v, u]).run P w = .ok v' w') (h : wpList P ops Q rest (a.put o.dst v') w') : wpList P ops Q (o :: rest) a w :=
  wpList_plain hgd fun _ hK => wp_copy_run w d s t t' ho v u hd hs hr (hK _ _ h)
theorem step_copy_run {ops : Array Oper} {o : Oper} {a : Act} {K : Act → World → Prop} {Q : Exit → Act → World → Prop} {E : Prop}
    (hg : o.guard = none) (d x : Operand) (t t' : TypeId) (hop : o.op = Op.call { callee := Callee.builtin Builtin.copy, args := #[d, x], argTypes := #[t, t'] })
    (v u : Value) (hd : a.eval d = v) (hx : a.eval x = u) {v' : Value} {w' : World} (hr : (Builtin.copy_ #[t, t'] o.type #[v, u]).run P w = .ok v' w') (hK : K (a.put o.dst v') w') :
    if Region.wanted o (yielded ops a.tmps) = true then Oper.wp P o a w K Q else E := by
  have hw : Region.wanted o (yielded ops a.tmps) = true := by simp [Region.wanted, hg]
  rw [if_pos hw]
  exact wp_copy_run w d x t t' hop v u hd hx hr hK
theorem step_append_run {ops : Array Oper} {o : Oper} {a : Act} {K : Act → World → Prop} {Q : Exit → Act → World → Prop} {E : Prop}
    (hg : o.guard = none) (d x : Operand) (t t' : TypeId) (hop : o.op = Op.call { callee := Callee.builtin Builtin.append, args := #[d, x], argTypes := #[t, t'] })
    (v u : Value) (hd : a.eval d = v) (hx : a.eval x = u) {v' : Value} {w' : World} (hr : (Builtin.append_ #[t, t'] o.type #[v, u]).run P w = .ok v' w') (hK : K (a.put o.dst v') w') :
    if Region.wanted o (yielded ops a.tmps) = true then Oper.wp P o a w K Q else E := by
  have hw : Region.wanted o (yielded ops a.tmps) = true := by simp [Region.wanted, hg]
  rw [if_pos hw]
  exact Lib.wp_append_run w d x t t' hop v u hd hx v' w' hr hK
theorem wp_clear_run {o : Oper} {a : Act} {K : Act → World → Prop} {Q : Exit → Act → World → Prop} (d : Operand) (t : TypeId)
    (ho : o.op = .call { callee := .builtin .clear, args := #[d], argTypes := #[t] }) (v : Value) (hd : a.eval d = v) {v' : Value} {w' : World}
    (hr : (Builtin.clear_ #[t] o.type #[v]).run P w = .ok v' w') (h : K (a.put o.dst v') w') : o.wp P a w K Q := by
  unfold Oper.wp execOp
  simp only [ho, resolve, invoke, builtin, Sem.run_bind, Sem.run_pure, Result.andThen_ok, List.map_toArray, List.map_cons, List.map_nil, hd, hr]
  exact h
theorem wpList_clear_run {ops : Array Oper} {rest : List Oper} {o : Oper} {a : Act} {Q : Exit → Act → World → Prop} (hgd : o.guard = none) (d : Operand) (t : TypeId)
    (ho : o.op = .call { callee := .builtin .clear, args := #[d], argTypes := #[t] }) (v : Value) (hd : a.eval d = v) {v' : Value} {w' : World}
    (hr : (Builtin.clear_ #[t] o.type #[v]).run P w = .ok v' w') (h : wpList P ops Q rest (a.put o.dst v') w') : wpList P ops Q (o :: rest) a w :=
  wpList_plain hgd fun _ hK => wp_clear_run w d t ho v hd hr (hK _ _ h)
end

section
variable {α : Type} {enc : α → List Value} {P : Program} {w : World} {k : Nat} {e dT : TypeId} {i : TypeInfo}
theorem splice_take_lt {β : Type} {L c : List β} {o m : Nat} (hm : m ≤ o) (ho : o ≤ L.length) : (splice L o c).take m = L.take m := by
  unfold splice
  rw [List.take_append_of_le_length (by rw [List.length_take]; omega), List.take_take, Nat.min_eq_left hm]
theorem splice_take_end {β : Type} {L c : List β} {o : Nat} (ho : o ≤ L.length) : (splice L o c).take (o + c.length) = L.take o ++ c := by
  unfold splice
  have e : (L.take o ++ c).length = o + c.length := by simp; omega
  rw [← List.append_assoc, ← e, List.take_left]
theorem splice_drop_ge {β : Type} {L c : List β} {o m : Nat} (hf : o + c.length ≤ L.length) (hm : o + c.length ≤ m) : (splice L o c).drop m = L.drop m := by
  unfold splice
  have e : (L.take o ++ c).length = o + c.length := by simp; omega
  rw [← List.append_assoc, List.drop_append, e, List.drop_drop, List.drop_of_length_le (by omega), List.nil_append]
  congr 1
  omega
theorem wpList_clear_zero {P : Program} {w : World} {e dT : TypeId} (hu : P.underlying dT = some (.slice e)) {ops : Array Oper} {rest : List Oper} {o : Oper} {a : Act} {Q : Exit → Act → World → Prop} (hgd : o.guard = none) (d : Operand)
    (ho : o.op = .call { callee := .builtin .clear, args := #[d], argTypes := #[dT] }) {db : Option Addr} {n dCap : Nat} (hd : a.eval d = .slice db n dCap) (hn : n = 0)
    (hK : wpList P ops Q rest (a.put o.dst (.tuple #[])) w) : wpList P ops Q (o :: rest) a w := by
  subst hn
  exact wpList_clear_run w hgd d dT ho _ hd (run_clear_none w hu _ db dCap) hK
theorem min_of {n sLen dLen : Nat} (hn : (n ≤ sLen ∧ n ≤ dLen) ∧ (sLen = n ∨ dLen = n)) : Nat.min sLen dLen = n := by
  show min sLen dLen = n
  omega
/-- The operation 'copy(d, s)', the worlds behind it by what is known of them. -/
theorem wpList_copy_at (hk : ∀ a, (enc a).length = k) {p : α → Prop} (h1 : ∀ a, p a → ∀ v ∈ enc a, v.oneCell' = true) (hu : P.underlying dT = some (.slice e)) (hi : P.info? e = some i) (hz : i.size = k)
    {ops : Array Oper} {rest : List Oper} {o : Oper} {a : Act} {Q : Exit → Act → World → Prop} (hgd : o.guard = none) (d s : Operand) (t' : TypeId)
    (ho : o.op = .call { callee := .builtin .copy, args := #[d, s], argTypes := #[dT, t'] }) {E : TypeId} {g : Nat} {rs : List α} (h : Row enc w E g rs) {h' : Nat} {ss : List α} {E' : TypeId} (hs : Row enc w E' h' ss)
    (po q n : Nat) {off soff dLen dCap sLen sCap : Nat} (hd : a.eval d = .slice (some ⟨g, off, none⟩) dLen dCap) (hsv : a.eval s = .slice (some ⟨h', soff, none⟩) sLen sCap) (hoff : off = po * k) (hsoff : soff = q * k)
    (hn : (n ≤ sLen ∧ n ≤ dLen) ∧ (sLen = n ∨ dLen = n)) (hfit : po + n ≤ rs.length) (hq : q + n ≤ ss.length) (hp : ∀ a ∈ (ss.drop q).take n, p a)
    (hK : ∀ W, Row enc W E g (splice rs po ((ss.drop q).take n)) → Upd (fun j => j = g) w W → wpList P ops Q rest (a.put o.dst (goInt n)) W) : wpList P ops Q (o :: rest) a w := by
  subst hoff hsoff
  exact wpList_copy_run w hgd d s dT t' ho _ _ hd hsv (run_copy_row w hk h1 hu hi hz t' _ h hs po q dLen dCap sLen sCap n (min_of hn) hfit hq hp) (hK _ (h.set _) (setR_upd w g _))
theorem step_copy_at (hk : ∀ a, (enc a).length = k) {p : α → Prop} (h1 : ∀ a, p a → ∀ v ∈ enc a, v.oneCell' = true) (hu : P.underlying dT = some (.slice e)) (hi : P.info? e = some i) (hz : i.size = k)
    {ops : Array Oper} {o : Oper} {a : Act} {K : Act → World → Prop} {Q : Exit → Act → World → Prop} {F : Prop} (hgd : o.guard = none) (d s : Operand) (t' : TypeId)
    (ho : o.op = .call { callee := .builtin .copy, args := #[d, s], argTypes := #[dT, t'] }) {E : TypeId} {g : Nat} {rs : List α} (h : Row enc w E g rs) {h' : Nat} {ss : List α} {E' : TypeId} (hs : Row enc w E' h' ss)
    (po q n : Nat) {off soff dLen dCap sLen sCap : Nat} (hd : a.eval d = .slice (some ⟨g, off, none⟩) dLen dCap) (hsv : a.eval s = .slice (some ⟨h', soff, none⟩) sLen sCap) (hoff : off = po * k) (hsoff : soff = q * k)
    (hn : (n ≤ sLen ∧ n ≤ dLen) ∧ (sLen = n ∨ dLen = n)) (hfit : po + n ≤ rs.length) (hq : q + n ≤ ss.length) (hp : ∀ a ∈ (ss.drop q).take n, p a)
    (hK : ∀ W, Row enc W E g (splice rs po ((ss.drop q).take n)) → Upd (fun j => j = g) w W → K (a.put o.dst (goInt n)) W) : if Region.wanted o (yielded ops a.tmps) = true then Oper.wp P o a w K Q else F := by
  subst hoff hsoff
  exact step_copy_run w hgd d s dT t' ho _ _ hd hsv (run_copy_row w hk h1 hu hi hz t' _ h hs po q dLen dCap sLen sCap n (min_of hn) hfit hq hp) (hK _ (h.set _) (setR_upd w g _))
theorem wpList_clear_at (hk : ∀ a, (enc a).length = k) {p : α → Prop} (h1 : ∀ a, p a → ∀ v ∈ enc a, v.oneCell' = true) (hu : P.underlying dT = some (.slice e)) (hi : P.info? e = some i) {z : Value} (hz : i.zero = some z) {a0 : α} (ha0 : z.cells.toList = enc a0) (hp : p a0)
    {ops : Array Oper} {rest : List Oper} {o : Oper} {a : Act} {Q : Exit → Act → World → Prop} (hgd : o.guard = none) (d : Operand)
    (ho : o.op = .call { callee := .builtin .clear, args := #[d], argTypes := #[dT] }) {E : TypeId} {g : Nat} {rs : List α} (h : Row enc w E g rs)
    (po n : Nat) {off dCap : Nat} (hd : a.eval d = .slice (some ⟨g, off, none⟩) n dCap) (hoff : off = po * k) (hfit : po + n ≤ rs.length)
    (hK : ∀ W, Row enc W E g (splice rs po (List.replicate n a0)) → Upd (fun j => j = g) w W → wpList P ops Q rest (a.put o.dst (.tuple #[])) W) : wpList P ops Q (o :: rest) a w := by
  subst hoff
  exact wpList_clear_run w hgd d dT ho _ hd (run_clear_row w hk h1 hu hi hz ha0 _ h hp po n dCap hfit) (hK _ (h.set _) (setR_upd w g _))
theorem wpList_append_at (hk : ∀ a, (enc a).length = k) {p : α → Prop} (h1 : ∀ a, p a → ∀ v ∈ enc a, v.oneCell' = true) (hu : P.underlying dT = some (.slice e)) (hi : P.info? e = some i) (hz : i.size = k)
    {ops : Array Oper} {rest : List Oper} {o : Oper} {a : Act} {Q : Exit → Act → World → Prop} (hgd : o.guard = none) (d s : Operand)
    (ho : o.op = .call { callee := .builtin .append, args := #[d, s], argTypes := #[dT, dT] }) {E : TypeId} {g : Nat} {rs : List α} (h : Row enc w E g rs) {h' : Nat} {ss : List α} {E' : TypeId} (hs : Row enc w E' h' ss)
    (po q : Nat) {off soff sLen sCap m c : Nat} (hd : a.eval d = .slice (some ⟨g, off, none⟩) sLen sCap) (hsv : a.eval s = .slice (some ⟨h', soff, none⟩) m c) (hoff : off = po * k) (hsoff : soff = q * k)
    (hroom : sLen + m ≤ sCap) (hfit : po + sLen + m ≤ rs.length) (hq : q + m ≤ ss.length) (hp : ∀ a ∈ (ss.drop q).take m, p a)
    (hK : ∀ W, Row enc W E g (splice rs (po + sLen) ((ss.drop q).take m)) → Upd (fun j => j = g) w W → wpList P ops Q rest (a.put o.dst (.slice (some ⟨g, off, none⟩) (sLen + m) sCap)) W) : wpList P ops Q (o :: rest) a w := by
  subst hoff hsoff
  exact Lib.wpList_append_run w hgd d s dT dT ho _ _ hd hsv _ _ (run_append_row w hk h1 hu hi hz _ h hs po q sLen sCap m c hroom hfit hq hp) (hK _ (h.set _) (setR_upd w g _))
theorem step_append_at (hk : ∀ a, (enc a).length = k) {p : α → Prop} (h1 : ∀ a, p a → ∀ v ∈ enc a, v.oneCell' = true) (hu : P.underlying dT = some (.slice e)) (hi : P.info? e = some i) (hz : i.size = k)
    {ops : Array Oper} {o : Oper} {a : Act} {K : Act → World → Prop} {Q : Exit → Act → World → Prop} {F : Prop} (hgd : o.guard = none) (d s : Operand)
    (ho : o.op = .call { callee := .builtin .append, args := #[d, s], argTypes := #[dT, dT] }) {E : TypeId} {g : Nat} {rs : List α} (h : Row enc w E g rs) {h' : Nat} {ss : List α} {E' : TypeId} (hs : Row enc w E' h' ss)
    (po q : Nat) {off soff sLen sCap m c : Nat} (hd : a.eval d = .slice (some ⟨g, off, none⟩) sLen sCap) (hsv : a.eval s = .slice (some ⟨h', soff, none⟩) m c) (hoff : off = po * k) (hsoff : soff = q * k)
    (hroom : sLen + m ≤ sCap) (hfit : po + sLen + m ≤ rs.length) (hq : q + m ≤ ss.length) (hp : ∀ a ∈ (ss.drop q).take m, p a)
    (hK : ∀ W, Row enc W E g (splice rs (po + sLen) ((ss.drop q).take m)) → Upd (fun j => j = g) w W → K (a.put o.dst (.slice (some ⟨g, off, none⟩) (sLen + m) sCap)) W) : if Region.wanted o (yielded ops a.tmps) = true then Oper.wp P o a w K Q else F := by
  subst hoff hsoff
  exact step_append_run w hgd d s dT dT ho _ _ hd hsv (run_append_row w hk h1 hu hi hz _ h hs po q sLen sCap m c hroom hfit hq hp) (hK _ (h.set _) (setR_upd w g _))
/-- append where a new row is made: one draw, one new block. -/
theorem wpList_append_fresh (hk : ∀ a, (enc a).length = k) (hu : P.underlying dT = some (.slice e)) (hi : P.info? e = some i) (hz : i.size = k) {z : Value} (hzz : i.zero = some z) {a0 : α} (ha0 : z.cells.toList = enc a0)
    {ops : Array Oper} {rest : List Oper} {o : Oper} {a : Act} {Q : Exit → Act → World → Prop} (hgd : o.guard = none) (d s : Operand)
    (ho : o.op = .call { callee := .builtin .append, args := #[d, s], argTypes := #[dT, dT] }) {E : TypeId} {g : Nat} {rs : List α} (h : Row enc w E g rs) {h' : Nat} {ss : List α} {E' : TypeId} (hs : Row enc w E' h' ss)
    (po q : Nat) {off soff sLen sCap m c : Nat} (hd : a.eval d = .slice (some ⟨g, off, none⟩) sLen sCap) (hsv : a.eval s = .slice (some ⟨h', soff, none⟩) m c) (hoff : off = po * k) (hsoff : soff = q * k)
    (hroom : sCap < sLen + m) (hfit : po + sLen ≤ rs.length) (hq : q + m ≤ ss.length) (hc : sLen ≤ sCap) (h63 : sLen + m ≤ 9223372036854775807) (hbytes : (sLen + m) * i.bytes ≤ 140737488355328)
    (hK : ∀ W cap, Row enc W e w.heap.size ((rs.drop po).take sLen ++ (ss.drop q).take m ++ List.replicate (cap - (sLen + m)) a0) → sLen + m ≤ cap → cap ≤ 9223372036854775807 → Below w.heap.size w W → W.heap.size = w.heap.size + 1 →
      wpList P ops Q rest (a.put o.dst (.slice (some ⟨w.heap.size, 0, none⟩) (sLen + m) cap)) W) : wpList P ops Q (o :: rest) a w := by
  subst hoff hsoff
  obtain ⟨cap, h2, h3, hr⟩ := run_append_new w hk hu hi hz hzz ha0 o.type h hs po q sLen sCap m c hroom hfit hq hc h63 hbytes
  exact Lib.wpList_append_run w hgd d s dT dT ho _ _ hd hsv _ _ hr (hK _ cap (alloc_at w.drew _) h2 h3 ((Below.refl _ _).drew.alloc (Nat.le_refl _) _) (by simp))
theorem wpList_append_nil (hk : ∀ a, (enc a).length = k) (hu : P.underlying dT = some (.slice e)) (hi : P.info? e = some i) (hz : i.size = k) {z : Value} (hzz : i.zero = some z) {a0 : α} (ha0 : z.cells.toList = enc a0)
    {ops : Array Oper} {rest : List Oper} {o : Oper} {a : Act} {Q : Exit → Act → World → Prop} (hgd : o.guard = none) (d s : Operand)
    (ho : o.op = .call { callee := .builtin .append, args := #[d, s], argTypes := #[dT, dT] }) {h' : Nat} {ss : List α} {E' : TypeId} (hs : Row enc w E' h' ss)
    (q : Nat) {soff m c : Nat} (hd : a.eval d = .slice none 0 0) (hsv : a.eval s = .slice (some ⟨h', soff, none⟩) m c) (hsoff : soff = q * k)
    (hm : 0 < m) (hq : q + m ≤ ss.length) (h63 : m ≤ 9223372036854775807) (hbytes : m * i.bytes ≤ 140737488355328)
    (hK : ∀ W cap, Row enc W e w.heap.size ((ss.drop q).take m ++ List.replicate (cap - m) a0) → m ≤ cap → cap ≤ 9223372036854775807 → Below w.heap.size w W → W.heap.size = w.heap.size + 1 →
      wpList P ops Q rest (a.put o.dst (.slice (some ⟨w.heap.size, 0, none⟩) m cap)) W) : wpList P ops Q (o :: rest) a w := by
  subst hsoff
  obtain ⟨cap, h2, h3, hr⟩ := run_append_onto_nil w hk hu hi hz hzz ha0 o.type hs q m c hm hq h63 hbytes
  exact Lib.wpList_append_run w hgd d s dT dT ho _ _ hd hsv _ _ hr (hK _ cap (alloc_at w.drew _) h2 h3 ((Below.refl _ _).drew.alloc (Nat.le_refl _) _) (by simp))
theorem wpList_append_zeros (hk : ∀ a, (enc a).length = k) (hk0 : 0 < k) (hu : P.underlying dT = some (.slice e)) {nT : TypeId} {kn : IntKind} (hnT : P.underlying nT = some (.int kn)) (hi : P.info? e = some i) (hz : i.size = k) {z : Value} (hzz : i.zero = some z) {a0 : α} (ha0 : z.cells.toList = enc a0)
    {ops : Array Oper} {rest : List Oper} {o : Oper} {a : Act} {Q : Exit → Act → World → Prop} (hgd : o.guard = none) (d s : Operand)
    (ho : o.op = .call { callee := .builtin .append, args := #[d, s], argTypes := #[dT, nT] }) {E : TypeId} {g : Nat} {rs : List α} (h : Row enc w E g rs)
    (po : Nat) {off sLen sCap m : Nat} {kn' : IntKind} {zn : Int} (hd : a.eval d = .slice (some ⟨g, off, none⟩) sLen sCap) (hsv : a.eval s = .int kn' zn) (hzn : zn = m) (hoff : off = po * k)
    (hroom : sCap < sLen + m) (hfit : po + sLen ≤ rs.length) (hm : 0 < m) (hc : sLen ≤ sCap) (h63 : sLen + m ≤ 9223372036854775807) (hbytes : (sLen + m) * i.bytes ≤ 140737488355328)
    (hK : ∀ W cap, Row enc W e w.heap.size ((rs.drop po).take sLen ++ List.replicate m a0 ++ List.replicate (cap - (sLen + m)) a0) → sLen + m ≤ cap → cap ≤ 9223372036854775807 → Below w.heap.size w W → W.heap.size = w.heap.size + 1 →
      wpList P ops Q rest (a.put o.dst (.slice (some ⟨w.heap.size, 0, none⟩) (sLen + m) cap)) W) : wpList P ops Q (o :: rest) a w := by
  subst hoff hzn
  obtain ⟨cap, h2, h3, hr⟩ := run_append_zeros_new w hk hk0 hu hnT hi hz hzz ha0 o.type h po sLen sCap m kn' hroom hfit hm hc h63 hbytes
  exact Lib.wpList_append_run w hgd d s dT nT ho _ _ hd hsv _ _ hr (hK _ cap (alloc_at w.drew _) h2 h3 ((Below.refl _ _).drew.alloc (Nat.le_refl _) _) (by simp))
end
end Go.Proofs.Ytijnjnncgkhabaa
