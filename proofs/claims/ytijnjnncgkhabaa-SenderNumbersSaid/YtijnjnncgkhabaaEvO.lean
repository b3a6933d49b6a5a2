/- DERIVED. The evaluator's operations against the model's: the ground. -/
import Derived.Test.YtijnjnncgkhabaaEvR2
import Derived.Test.YtijnjnncgkhabaaEvC
namespace Go.Proofs.Ytijnjnncgkhabaa
namespace Ev
open Go.RowKit

/-- the types' tables agree -/
structure TyOk (P : Program) (Y0 : Ty) : Prop where
  t : ∀ t i, Y0.t t = some i → P.info? t = some i
  q : ∀ t, Y0.q t = true → ∀ (op : BinOp) (ng : Bool), (op = .eql ∧ ng = false ∨ op = .neq ∧ ng = true) → ∀ (β : Id → CA) (D : Id → Prop) (xs ys : List AV) (X Y : List Value) (r : Bool), VRs β D xs X → VRs β D ys Y → sizeT Y0 t = some xs.length → ceqs xs ys = some r →
    ∀ (x y : Operand) (w : World), (do eqGuard op t x y (.agg X.toArray) (.agg Y.toArray); binOp op t (.agg X.toArray) (.agg Y.toArray) : Sem Value).run P w = .ok (.bool (ng != r)) w

section
variable {P : Program} {Y : Ty} (hY : TyOk P Y)
include hY

theorem under_ok {t : TypeId} {d : TypeDesc} (h : under Y t = some d) : P.underlying t = some d := by
  unfold under at h
  rw [Option.bind_eq_some_iff] at h
  obtain ⟨i, hi, hd⟩ := h
  have hp := hY.t t i hi
  unfold Program.underlying
  rw [hp]
  unfold descT at hd
  split at hd
  · rename_i n u he
    rw [Option.bind_eq_some_iff] at hd
    obtain ⟨j, hj, hd⟩ := hd
    cases hd
    cases i
    simp only at he
    subst he
    simp [hY.t u j hj]
  · rename_i hn
    cases hd
    cases i with
    | mk desc =>
      cases desc <;> first | rfl | exact absurd rfl (hn _ _)
theorem size_ok {t : TypeId} {m : Nat} (h : sizeT Y t = some m) (w : World) : (sizeOf t).run P w = .ok m w := by
  unfold sizeT at h
  rw [Option.bind_eq_some_iff] at h
  obtain ⟨i, hi, hm⟩ := h
  cases hm
  simp [sizeOf, typeInfo, hY.t t i hi]
theorem size_info {t : TypeId} {m : Nat} (h : sizeT Y t = some m) : (P.info? t).map (·.size) = some m := by
  unfold sizeT at h
  rw [Option.bind_eq_some_iff] at h
  obtain ⟨i, hi, hm⟩ := h
  cases hm
  simp [hY.t t i hi]
theorem elemS_ok {t el : TypeId} (h : elemS Y t = some el) : P.underlying t = some (.slice el) := by
  unfold elemS at h
  rw [Option.bind_eq_some_iff] at h
  obtain ⟨d, hd, he⟩ := h
  have := under_ok hY hd
  cases d <;> simp only [sliceD] at he <;> cases he
  exact this
end

theorem ofC_ok {v : Value} {a : AV} (h : ofC v = some a) (β : Id → CA) (D : Id → Prop) : VR β D a v ∧ a.one = true ∧ a.cells = some [a] ∧ v.cells = #[v] := by
  unfold ofC at h
  split at h <;> cases h <;> simp [VR, AV.one, AV.cells, Value.cells]
  rename_i x
  refine ⟨?_, fun b _ => b.toNat_lt⟩
  have e : (UInt8.ofNat ∘ fun b : UInt8 => b.toNat) = id := by funext b; simp
  rw [e]
  simp
theorem ofCs_ok : ∀ {l : List Value} {as : List AV}, ofCs l = some as → ∀ (β : Id → CA) (D : Id → Prop), VRs β D as l ∧ ∀ x ∈ as, x.one = true
  | [], as, h, β, D => by simp only [ofCs] at h; cases h; exact ⟨VRs.nil, by simp⟩
  | v :: l, as, h, β, D => by
    simp only [ofCs, Option.bind_eq_some_iff] at h
    obtain ⟨a, ha, bs, hb, h⟩ := h
    cases h
    have h1 := ofC_ok ha β D
    have h2 := ofCs_ok hb β D
    exact ⟨VRs.cons h1.1 h2.1, by simp [h1.2.1]; exact h2.2⟩
theorem ofV_ok {v : Value} {a : AV} (h : ofV v = some a) (β : Id → CA) (D : Id → Prop) : VR β D a v := by
  unfold ofV at h
  split at h
  · rw [Option.bind_eq_some_iff] at h
    obtain ⟨l, hl, h⟩ := h
    cases h
    have := ofCs_ok hl β D
    simp only [VR]
    exact ⟨_, by simp, this⟩
  · split at h
    · rename_i vs he
      cases h
      simp only [VR]
      exact ⟨[], by simpa using he, VRs.nil⟩
    · cases h
  · exact (ofC_ok h β D).1

section
variable {β : Id → CA} {D : Id → Prop}
/-- A value's cells. -/
theorem VR.cells {a : AV} {V : Value} (h : VR β D a V) {l : List AV} (hl : a.cells = some l) : VRs β D l V.cells.toList ∧ ∀ x ∈ l, x.one = true := by
  cases a with
  | ag xs =>
    simp only [AV.cells] at hl
    cases hl
    simp only [VR] at h
    obtain ⟨C, rfl, h1, h2⟩ := h
    exact ⟨by simpa [Value.cells] using h1, h2⟩
  | tu xs => simp [AV.cells] at hl
  | _ =>
    all_goals
      simp only [AV.cells] at hl
      cases hl
      have hone : V.oneCell' = true := h.one rfl
      have hc : V.cells = #[V] := by cases V <;> first | rfl | cases hone
      rw [hc]
      exact ⟨VRs.cons h VRs.nil, by simp [AV.one]⟩
theorem VR.und : VR β D und undef := by
  simp only [Ev.und, VR]
  exact ⟨[], rfl, VRs.nil⟩
/-- A bool is of a bool. -/
theorem VR.bool {v : AV} {t : Bool} (h : VR β D v (.bool t)) : v = .b t := by
  cases v <;> simp [VR] at h ⊢
  exact h.symm
end

/-- the slots -/
structure ER (β : Id → CA) (D : Id → Prop) (N : Nat) (e : Env) (a : Act) : Prop where
  size : N ≤ a.tmps.size
  at_ : ∀ t, VR β D (e t) (a.tmps.getD t undef)
  defers : a.defers = []
structure Rel (β : Id → CA) (D : Id → Prop) (B : Nat) (W : World) (h : Heap) (w : World) : Prop where
  hr : HR β D B h w
  bel : Below B W w
def Fresh (D : Id → Prop) (n n' : Nat) : Prop := ∀ id : Id, n ≤ id.num → id.num < n' → ¬ D id
/-- what comes of it: a value, and memory, related -/
def Gives (P : Program) (β : Id → CA) (D : Id → Prop) (B : Nat) (W : World) (s s' : S) (v : AV) (m : Sem Value) (w : World) : Prop :=
  ∃ β' D' w' V, Ext β D β' D' s.n.num s'.n.num ∧ Rel β' D' B W s'.h w' ∧ VR β' D' v V ∧ m.run P w = .ok V w'

section
variable {P : Program} {Y : Ty} {β : Id → CA} {D : Id → Prop} {B N : Nat} {W w : World} {s s' : S} {e : Env} {a : Act}

theorem ER.mono {β' : Id → CA} {D' : Id → Prop} {n n' : Nat} (hx : Ext β D β' D' n n') (he : ER β D N e a) : ER β' D' N e a := ⟨he.size, fun t => VR.mono hx _ _ (he.at_ t), he.defers⟩
theorem ER.put (he : ER β D N e a) {d : Option Nat} (hd : dstOk N d = true) {v : AV} {V : Value} (hv : VR β D v V) : ER β D N (putO d v e) (a.put d V) := by
  cases d with
  | none => exact he
  | some d =>
    simp only [dstOk] at hd
    have hd' : d < N := Nat.le_of_ble_eq_true hd
    refine ⟨by simpa [Act.put] using he.size, fun t => ?_, he.defers⟩
    simp only [putO, Act.put]
    by_cases ht : t = d
    · subst ht
      rw [if_pos rfl, Array.getD_eq_getD_getElem?, Array.getElem?_setIfInBounds, if_pos rfl, if_pos (Nat.lt_of_lt_of_le hd' he.size)]
      exact hv
    · rw [if_neg ht, Array.getD_eq_getD_getElem?, Array.getElem?_setIfInBounds, if_neg (fun e => ht e.symm), ← Array.getD_eq_getD_getElem?]
      exact he.at_ t

theorem arg_ok (he : ER β D N e a) {x : Operand} {y : Arg} (h : cA x = some y) : VR β D (arg y e) (a.eval x) := by
  cases x with
  | tmp t => simp only [cA] at h; cases h; exact he.at_ t
  | const v =>
    simp only [cA, Option.bind_eq_some_iff] at h
    obtain ⟨b, hb, h⟩ := h
    cases h
    exact ofV_ok hb β D
  | func f =>
    simp only [cA] at h
    cases h
    simp only [arg, VR, Act.eval]
    exact ⟨[], [], rfl, VRs.nil, VRs.nil⟩
  | global g => simp [cA] at h
theorem args_ok (he : ER β D N e a) : ∀ {xs : List Operand} {ys : List Arg}, cAs xs = some ys → VRs β D (args ys e) (xs.map a.eval)
  | [], ys, h => by simp only [cAs] at h; cases h; exact VRs.nil
  | x :: xs, ys, h => by
    simp only [cAs, Option.bind_eq_some_iff] at h
    obtain ⟨b, hb, bs, hbs, h⟩ := h
    cases h
    exact VRs.cons (arg_ok he hb) (args_ok he hbs)

/-- Nothing happens. -/
theorem Gives.same (hr : Rel β D B W s.h w) {v : AV} {V : Value} (hv : VR β D v V) {m : Sem Value} (hm : m.run P w = .ok V w) : Gives P β D B W s s v m w :=
  ⟨β, D, w, V, Ext.refl _ _ _, hr, hv, hm⟩

theorem pure_some {α : Type} {x y : α} {t : S} (h : M.pure x s = some (y, t)) : y = x ∧ t = s := by
  simp only [M.pure] at h
  cases h
  exact ⟨rfl, rfl⟩
theorem bind_some {α γ : Type} {m : M α} {f : α → M γ} {y : γ} {t : S} (h : M.bind m f s = some (y, t)) : ∃ x u, m s = some (x, u) ∧ f x u = some (y, t) := by
  simp only [M.bind] at h
  split at h
  · cases h
  · rename_i x u hx
    exact ⟨x, u, hx, h⟩
theorem ofO_some {α γ : Type} {o : Option α} {f : α → M γ} {y : γ} {t : S} (h : M.ofO o f s = some (y, t)) : ∃ x, o = some x ∧ f x s = some (y, t) := by
  cases o with
  | none => simp [M.ofO, M.no] at h
  | some x => exact ⟨x, rfl, h⟩
theorem ifB_some {α : Type} {b : Bool} {m : M α} {y : α} {t : S} (h : M.ifB b m s = some (y, t)) : b = true ∧ m s = some (y, t) := by
  cases b with
  | false => simp [M.ifB, M.no] at h
  | true => exact ⟨rfl, h⟩
theorem no_some {α : Type} {y : α} {t : S} (h : M.no s = some (y, t)) : False := by simp [M.no] at h
theorem logR_h (s : S) (id : Id) (lo m : Nat) : (M.logR s id lo m).h = s.h ∧ (M.logR s id lo m).n = s.n := by unfold M.logR; split <;> exact ⟨rfl, rfl⟩
theorem logW_h (s : S) (id : Id) (lo m : Nat) : (M.logW s id lo m).h = s.h ∧ (M.logW s id lo m).n = s.n := by unfold M.logW; split <;> exact ⟨rfl, rfl⟩

theorem rd_ok (hr : HR β D B s.h w) {id : Id} {lo m : Nat} {l : List AV} (h : M.rd id lo m s = some (l, s')) :
    s'.h = s.h ∧ s'.n = s.n ∧ l.length = m ∧ ∃ Vs, VRs β D l Vs ∧ Vs.length = m ∧ (∀ j V, Vs[j]? = some V → w.cell? ⟨(β id).blk, (β id).base + lo + j, none⟩ = some V) ∧ (∀ V ∈ Vs, V.oneCell' = true) ∧ ∀ v ∈ l, v.one = true := by
  unfold M.rd at h
  cases h0 : Nat.beq m 0 <;> rw [h0] at h <;> simp only at h
  rotate_left
  · obtain ⟨rfl, rfl⟩ := pure_some h
    obtain rfl : m = 0 := Nat.eq_of_beq_eq_true h0
    exact ⟨rfl, rfl, rfl, [], VRs.nil, rfl, by simp, by simp, by simp⟩
  · split at h
    · cases h
    · rename_i k hk
      split at h
      · rename_i hle
        have hle' : lo + m ≤ k.c.length := Nat.le_of_ble_eq_true hle
        cases h
        obtain ⟨h1, h2⟩ := logR_h s id lo m
        obtain ⟨Vs, g1, g2, g3, g4, g5⟩ := hr.read hk lo m hle'
        refine ⟨h1, h2, ?_, Vs, g1, g2, g3, g4, g5⟩
        rw [List.length_take, List.length_drop]; omega
      · cases h
theorem wr_ok (hr : HR β D B s.h w) {id : Id} {lo : Nat} {l : List AV} {Vs : List Value} (hl : VRs β D l Vs) (h1 : ∀ v ∈ l, v.one = true) {u : Unit} (h : M.wr id lo l s = some (u, s')) :
    s'.n = s.n ∧ HR β D B s'.h (w.setCells (β id).blk ((β id).base + lo) Vs) ∧ (D id ∨ Vs = []) ∧
      (storeCells ⟨(β id).blk, (β id).base + lo, none⟩ Vs).run P w = .ok () (w.setCells (β id).blk ((β id).base + lo) Vs) := by
  unfold M.wr at h
  cases h0 : l.isEmpty <;> rw [h0] at h <;> simp only at h
  rotate_left
  · obtain ⟨_, rfl⟩ := pure_some h
    obtain rfl : l = [] := by simpa using h0
    simp only [VRs] at hl
    subst hl
    exact ⟨rfl, hr, .inr rfl, rfl⟩
  · split at h
    · cases h
    · rename_i k hk
      split at h
      · rename_i hle
        have hle' : lo + l.length ≤ k.c.length := Nat.le_of_ble_eq_true hle
        cases h
        obtain ⟨g1, g2⟩ := logW_h ⟨s.tr, Heap.put s.h id (some ⟨k.z, k.c.take lo ++ (l ++ k.c.drop (lo + l.length))⟩), s.n, s.r, s.w⟩ id lo l.length
        obtain ⟨hd, c, el, fz, hb, hs, hf, hc, hzk⟩ := hr.live id k hk
        have hcf := hc.fit
        have hone : ∀ V ∈ Vs, V.oneCell' = true := fun V hV => by
          obtain ⟨j, hj⟩ := List.getElem?_of_mem hV
          obtain ⟨x, hx, hv⟩ := hl.back j V hj
          exact hv.one (h1 x (List.mem_of_getElem? hx))
        have hst := run_storeCells_cells (P := P) (β id).blk ((β id).base + lo) Vs 0 w
          (fun j hj => (hr.there hk _ (by rw [hl.length] at hj; omega)).1) (fun j hj => (hr.there hk _ (by rw [hl.length] at hj; omega)).2) hone
        refine ⟨g2, ?_, .inl hd, by simpa using hst⟩
        rw [g1]
        exact hr.write hk lo hl h1 hle'
      · cases h
theorem new_ok (hr : HR β D B s.h w) {z : Zf} {l : List AV} {id : Id} (h : M.new z l s = some (id, s')) :
    id = s.n ∧ s'.n.num = s.n.num + 1 ∧ s'.h = Heap.put s.h s.n (some ⟨z, l⟩) := by
  unfold M.new at h
  split at h
  · cases h
  · rename_i n hn
    cases h
    obtain ⟨g1, g2⟩ := logW_h ⟨s.tr, Heap.put s.h s.n (some ⟨z, l⟩), n, s.r, s.w⟩ s.n 0 (l.length + 1)
    exact ⟨rfl, by rw [g2]; exact Id.inc_num hn, g1⟩
theorem shared_ok {id : Id} {z : Zf} (h : M.shared id s = some (z, s')) : s'.h = s.h ∧ s'.n = s.n ∧ ∃ k, s.h id = some k ∧ k.z = z := by
  unfold M.shared at h
  split at h
  · cases h
  · rename_i k hk
    cases h
    obtain ⟨g1, g2⟩ := logR_h s id k.c.length 1
    exact ⟨g1, g2, k, hk, rfl⟩

theorem ends_ok {id : Id} {z : Zf × Nat} (h : M.ends id s = some (z, s')) : s'.h = s.h ∧ s'.n = s.n ∧ ∃ k, s.h id = some k ∧ k.z = z.1 ∧ k.c.length = z.2 := by
  unfold M.ends at h
  split at h
  · cases h
  · rename_i k hk
    cases h
    obtain ⟨g1, g2⟩ := logR_h s id k.c.length 1
    exact ⟨g1, g2, k, hk, rfl, rfl⟩

/-- A new block of the model's, and ours. -/
theorem Gives.fresh (hr : Rel β D B W s.h w) {z : Zf} {l : List AV} {id : Id} (h : M.new z l s = some (id, s')) (hf : Fresh D s.n.num s'.n.num) {wd : World} (hw : wd = w ∨ wd = w.drew) (c : Array Value) (el : TypeId) (fz : Nat × Nat) (hfz : fzok z.s fz c.size) (hc : Cells β D c 0 l) (hzn : z.t = true → l.length = c.size)
    {v : AV} {V : Value} {m : Sem Value} (hm : m.run P w = .ok V (wd.alloc (.cells c el fz))) (hv : VR (named β s.n ⟨w.heap.size, 0, c.size⟩) (fun j => D j ∨ j = s.n) v V) : Gives P β D B W s s' v m w := by
  obtain ⟨rfl, hn, hh⟩ := new_ok hr.hr h
  have hd : ¬ D s.n := hf s.n (Nat.le_refl _) (by omega)
  have hrd : HR β D B s.h wd := by rcases hw with rfl | rfl; exact hr.hr; exact Ext.drew_heap hr.hr rfl
  have hsz : wd.heap.size = w.heap.size := by rcases hw with rfl | rfl <;> rfl
  have hbd : Below B W wd := by rcases hw with rfl | rfl; exact hr.bel; exact hr.bel.drew
  refine ⟨_, _, _, V, ?_, ⟨?_, hbd.alloc (by rw [hsz]; exact hr.hr.size) _⟩, hv, hm⟩
  · rw [hn]; exact named_ext β _ hd
  · rw [hh]
    have := hrd.fresh hd z c el fz hfz hc hzn
    rw [hsz] at this
    exact this
end
end Ev
end Go.Proofs.Ytijnjnncgkhabaa
