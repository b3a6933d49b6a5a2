/- DERIVED. Slices that are only read: whatever their block holds besides; parts of them. -/
import Derived.Test.YtebiebcpdjipjaaPush2
namespace Go.Proofs.Ytebiebcpdjipjaa
open Go.RowKit

section
variable {α : Type} {enc : α → List Value} {k : Nat}
/-- A slice value that reads as xs; its cells lie in a block below B. -/
def Vw (enc : α → List Value) (w : World) (B : Nat) (v : Value) (xs : List α) : Prop :=
  ∃ oa cap, v = .slice oa xs.length cap ∧ xs.length ≤ cap ∧ cap ≤ 9223372036854775807 ∧ (xs = [] ∨ ∃ b off, oa = some ⟨b, off, none⟩ ∧ b < B ∧ ∀ j u, (flat enc xs)[j]? = some u → w.cell? ⟨b, off + j, none⟩ = some u)
theorem Vw.below {w w' : World} {B : Nat} {v : Value} {xs : List α} (h : Vw enc w B v xs) (hb : Below B w w') : Vw enc w' B v xs := by
  obtain ⟨oa, cap, h1, h2, h3, h4⟩ := h
  refine ⟨oa, cap, h1, h2, h3, ?_⟩
  rcases h4 with h4 | ⟨b, off, h4, h5, h6⟩
  · exact .inl h4
  · exact .inr ⟨b, off, h4, h5, fun j u hu => (hb.cell (p := ⟨b, off + j, none⟩) h5).trans (h6 j u hu)⟩
theorem Vw.mono {w : World} {B B' : Nat} {v : Value} {xs : List α} (h : Vw enc w B v xs) (hb : B ≤ B') : Vw enc w B' v xs := by
  obtain ⟨oa, cap, h1, h2, h3, h4⟩ := h
  refine ⟨oa, cap, h1, h2, h3, ?_⟩
  rcases h4 with h4 | ⟨b, off, h4, h5, h6⟩
  · exact .inl h4
  · exact .inr ⟨b, off, h4, by omega, h6⟩
theorem Vw.upd {F : Nat → Prop} {w w' : World} {B : Nat} {v : Value} {xs : List α} (h : Vw enc w B v xs) (hu : Upd F w w') (hB : B ≤ w.heap.size) (hF : ∀ b, b < B → ¬ F b) : Vw enc w' B v xs :=
  h.below ⟨hu.os, hu.tape, hu.output, hu.size, fun j hj => hu.block j (by omega) (hF j hj)⟩
theorem Vw.shape {w : World} {B : Nat} {v : Value} {xs : List α} (h : Vw enc w B v xs) : ∃ oa cap, v = .slice oa xs.length cap ∧ xs.length ≤ cap ∧ cap ≤ 9223372036854775807 := by
  obtain ⟨oa, cap, h1, h2, h3, _⟩ := h
  exact ⟨oa, cap, h1, h2, h3⟩
theorem Vw.nil (w : World) (B : Nat) (oa : Option Addr) (cap : Nat) (h : cap ≤ 9223372036854775807) : Vw enc w B (.slice oa 0 cap) [] := ⟨oa, cap, rfl, by simp, h, .inl rfl⟩
theorem SlG.vw {E : TypeId} {w : World} {v : Value} {og : Option Nat} {xs : List α} (h : SlG enc E w v og xs) : Vw enc w w.heap.size v xs := by
  rcases h with ⟨rfl, rfl, rfl⟩ | ⟨g, ys, rfl, rfl, hr, hl⟩
  · exact Vw.nil _ _ _ _ (by omega)
  · refine ⟨_, _, rfl, by omega, hl, .inr ⟨g, 0, rfl, heap_lt hr, ?_⟩⟩
    intro j u hj
    rw [Nat.zero_add, hr.cell, flat_append]
    rw [List.getElem?_append_left (by rw [List.getElem?_eq_some_iff] at hj; exact hj.1)]
    exact hj
theorem Vw.src {w : World} {B : Nat} {v : Value} {xs : List α} (h : Vw enc w B v xs) (hx : 0 < xs.length) : ∃ ad cap, v = .slice (some ad) xs.length cap ∧ Src enc w ad xs := by
  obtain ⟨oa, cap, h1, h2, h3, h4⟩ := h
  rcases h4 with rfl | ⟨b, off, rfl, h5, h6⟩
  · simp at hx
  · refine ⟨_, cap, h1, fun j u hu => ?_⟩
    rw [add_lit']
    exact h6 j u hu
/-- An element's cells. -/
theorem Vw.el {w : World} {B : Nat} {oa : Option Addr} {n cap : Nat} {xs : List α} (h : Vw enc w B (.slice oa n cap) xs) (hk : ∀ a, (enc a).length = k) {i : Nat} {a : α} (ha : xs[i]? = some a) :
    ∃ b off, oa = some ⟨b, off, none⟩ ∧ b < B ∧ ∀ j, j < k → w.cell? ⟨b, off + i * k + j, none⟩ = (enc a)[j]? := by
  obtain ⟨oa', cap', h1, h2, h3, h4⟩ := h
  cases h1
  rcases h4 with rfl | ⟨b, off, rfl, h5, h6⟩
  · simp at ha
  · refine ⟨b, off, rfl, h5, fun j hj => ?_⟩
    have hg := flat_get hk xs i j hj ha
    obtain ⟨u, hu⟩ : ∃ u, (enc a)[j]? = some u := ⟨_, List.getElem?_eq_getElem (by rw [hk]; exact hj)⟩
    rw [hu] at hg ⊢
    rw [Nat.add_assoc]
    exact h6 _ u hg
/-- A part of it: from p on, n elements. -/
theorem Vw.part {w : World} {B : Nat} {b off len cap : Nat} {xs : List α} (h : Vw enc w B (.slice (some ⟨b, off, none⟩) len cap) xs) (hk : ∀ a, (enc a).length = k) (p n c : Nat) (hp : p + n ≤ xs.length) (hn : n ≤ c) (hc : c ≤ 9223372036854775807) :
    Vw enc w B (.slice (some ⟨b, off + p * k, none⟩) n c) ((xs.drop p).take n) := by
  obtain ⟨oa', cap', h1, h2, h3, h4⟩ := h
  have hl : ((xs.drop p).take n).length = n := by rw [List.length_take, List.length_drop]; omega
  refine ⟨_, c, by rw [hl], by rw [hl]; exact hn, hc, ?_⟩
  rcases h4 with rfl | ⟨b', off', h4, h5, h6⟩
  · left
    simp
  · cases h1
    cases h4
    refine .inr ⟨b, off + p * k, rfl, h5, fun j u hj => ?_⟩
    rw [Nat.add_assoc]
    apply h6
    rw [← flat_take hk, ← flat_drop hk] at hj
    rw [List.getElem?_take] at hj
    split at hj
    · rw [List.getElem?_drop] at hj
      exact hj
    · cases hj
end

section
variable {α : Type} {enc : α → List Value} {k : Nat} {P : Program} {w : World} {e dT : TypeId} {i : TypeInfo}
/-- append(s, x...), x read only. -/
theorem run_pushV (hk : ∀ a, (enc a).length = k) (h1 : ∀ a, ∀ v ∈ enc a, v.oneCell' = true) (hu : P.underlying dT = some (.slice e)) (hi : P.info? e = some i) (hz : i.size = k) {z : Value} (hzz : i.zero = some z) {a0 : α} (ha0 : z.cells.toList = enc a0) (ty : TypeId)
    {v u : Value} {og : Option Nat} {xs zs : List α} {B : Nat} (h : SlG enc e w v og xs) (hs : Vw enc w B u zs) (h63 : xs.length + zs.length ≤ 9223372036854775807) (hb : (xs.length + zs.length) * i.bytes ≤ 140737488355328) :
    ∃ W v' og', (Builtin.append_ #[dT, dT] ty #[v, u]).run P w = .ok v' W ∧ SlG enc e W v' og' (xs ++ zs) ∧ (og' = og ∨ ∃ g, og' = some g ∧ w.heap.size ≤ g) ∧ Upd (fun j => og = some j) w W := by
  rcases Nat.eq_zero_or_pos zs.length with h0 | h0
  · obtain ⟨oa, cap, rfl, _, _⟩ := hs.shape
    have e0 := List.eq_nil_of_length_eq_zero h0
    subst e0
    refine ⟨w, v, og, run_push_none hu hi ty h oa cap hk, by rw [List.append_nil]; exact h, .inl rfl, Upd.refl _ _⟩
  · obtain ⟨ad, cap, rfl, hsrc⟩ := hs.src h0
    exact run_push hk h1 hu hi hz hzz ha0 ty h hsrc cap h0 h63 hb
theorem wpList_pushV (hk : ∀ a, (enc a).length = k) (h1 : ∀ a, ∀ v ∈ enc a, v.oneCell' = true) (hu : P.underlying dT = some (.slice e)) (hi : P.info? e = some i) (hz : i.size = k) {z : Value} (hzz : i.zero = some z) {a0 : α} (ha0 : z.cells.toList = enc a0)
    {ops : Array Oper} {rest : List Oper} {o : Oper} {a : Act} {Q : Exit → Act → World → Prop} (hgd : o.guard = none) (d s : Operand)
    (ho : o.op = .call { callee := .builtin .append, args := #[d, s], argTypes := #[dT, dT] }) {v u : Value} {og : Option Nat} {xs : List α} (h : SlG enc e w v og xs) {B : Nat} {zs : List α} (hs : Vw enc w B u zs)
    (hd : a.eval d = v) (hsv : a.eval s = u) (hb : (xs.length + zs.length) * i.bytes ≤ 140737488355328) (hb1 : xs.length + zs.length ≤ 9223372036854775807)
    (hK : ∀ W v' og', SlG enc e W v' og' (xs ++ zs) → (og' = og ∨ ∃ g, og' = some g ∧ w.heap.size ≤ g) → Upd (fun j => og = some j) w W → wpList P ops Q rest (a.put o.dst v') W) : wpList P ops Q (o :: rest) a w := by
  obtain ⟨W, v', og', h2, h3, h4, h5⟩ := run_pushV hk h1 hu hi hz hzz ha0 o.type h hs hb1 hb
  exact Lib.wpList_append_run w hgd d s dT dT ho _ _ hd hsv _ _ h2 (hK W v' og' h3 h4 h5)
theorem step_pushV (hk : ∀ a, (enc a).length = k) (h1 : ∀ a, ∀ v ∈ enc a, v.oneCell' = true) (hu : P.underlying dT = some (.slice e)) (hi : P.info? e = some i) (hz : i.size = k) {z : Value} (hzz : i.zero = some z) {a0 : α} (ha0 : z.cells.toList = enc a0)
    {ops : Array Oper} {o : Oper} {a : Act} {K : Act → World → Prop} {Q : Exit → Act → World → Prop} {F : Prop} (hgd : o.guard = none) (d s : Operand)
    (ho : o.op = .call { callee := .builtin .append, args := #[d, s], argTypes := #[dT, dT] }) {v u : Value} {og : Option Nat} {xs : List α} (h : SlG enc e w v og xs) {B : Nat} {zs : List α} (hs : Vw enc w B u zs)
    (hd : a.eval d = v) (hsv : a.eval s = u) (hb : (xs.length + zs.length) * i.bytes ≤ 140737488355328) (hb1 : xs.length + zs.length ≤ 9223372036854775807)
    (hK : ∀ W v' og', SlG enc e W v' og' (xs ++ zs) → (og' = og ∨ ∃ g, og' = some g ∧ w.heap.size ≤ g) → Upd (fun j => og = some j) w W → K (a.put o.dst v') W) : if Region.wanted o (yielded ops a.tmps) = true then Oper.wp P o a w K Q else F := by
  obtain ⟨W, v', og', h2, h3, h4, h5⟩ := run_pushV hk h1 hu hi hz hzz ha0 o.type h hs hb1 hb
  exact step_append_run w hgd d s dT dT ho _ _ hd hsv h2 (hK W v' og' h3 h4 h5)
end

/-- Bytes. -/
def encB (n : Nat) : List Value := [.int .u8 n]
theorem encB_len (n : Nat) : (encB n).length = 1 := rfl
theorem encB_one (n : Nat) : ∀ v ∈ encB n, v.oneCell' = true := by
  intro v hv
  simp [encB] at hv
  subst hv
  rfl
theorem flatB (l : List Nat) : flat encB l = l.map (fun (n : Nat) => Value.int .u8 (n : Int)) := by
  induction l with
  | nil => rfl
  | cons a l ih => rw [flat_cons, ih]; rfl
def Bys (l : List Nat) : Prop := ∀ n ∈ l, n < 256
/-- Bools. -/
def encL (b : Bool) : List Value := [.bool b]
theorem encL_len (b : Bool) : (encL b).length = 1 := rfl
theorem encL_one (b : Bool) : ∀ v ∈ encL b, v.oneCell' = true := by
  intro v hv
  simp [encL] at hv
  subst hv
  rfl
theorem Vw.byte {w : World} {B : Nat} {oa : Option Addr} {n cap : Nat} {xs : List Nat} (h : Vw encB w B (.slice oa n cap) xs) {i x : Nat} (hx : xs[i]? = some x) :
    ∃ b off, oa = some ⟨b, off, none⟩ ∧ b < B ∧ w.cell? ⟨b, off + i, none⟩ = some (.int .u8 x) := by
  obtain ⟨b, off, h1, h2, h3⟩ := h.el encB_len hx
  refine ⟨b, off, h1, h2, ?_⟩
  have := h3 0 (by omega)
  simpa [encB] using this
end Go.Proofs.Ytebiebcpdjipjaa
