/- DERIVED. The evaluator's memory against the model's: values, blocks, what a read, a write, a new block do to both. -/
import Derived.WalkKit
import Derived.Laws.IdiomCopy
import Derived.Below
import Derived.Test.YthknbcbkibbncaaGreatFa2
set_option linter.all false
namespace Go.Proofs.YthknbcbkibbncaaGreat
namespace Ev
open Go.RowKit

theorem Dg.val_lt (d : Dg) : d.val < 8 := by cases d <;> decide
theorem Dg.val_inj {a b : Dg} (h : a.val = b.val) : a = b := by cases a <;> cases b <;> first | rfl | (exact absurd h (by decide))
theorem Id.num_inj {i j : Id} (h : i.num = j.num) : i = j := by
  obtain ⟨a, b, c, d, e, f⟩ := i
  obtain ⟨a', b', c', d', e', f'⟩ := j
  simp only [Id.num] at h
  have := a.val_lt; have := b.val_lt; have := c.val_lt; have := d.val_lt; have := e.val_lt; have := f.val_lt
  have := a'.val_lt; have := b'.val_lt; have := c'.val_lt; have := d'.val_lt; have := e'.val_lt; have := f'.val_lt
  rw [Dg.val_inj (show a.val = a'.val by omega), Dg.val_inj (show b.val = b'.val by omega), Dg.val_inj (show c.val = c'.val by omega), Dg.val_inj (show d.val = d'.val by omega),
    Dg.val_inj (show e.val = e'.val by omega), Dg.val_inj (show f.val = f'.val by omega)]
theorem Dg.inc_false {d d' : Dg} (h : d.inc = (d', false)) : d'.val = d.val + 1 := by cases d <;> cases h <;> rfl
theorem Dg.inc_true {d d' : Dg} (h : d.inc = (d', true)) : d.val = 7 ∧ d'.val = 0 := by cases d <;> cases h <;> exact ⟨rfl, rfl⟩
theorem Id.inc_num {i j : Id} (h : i.inc = some j) : j.num = i.num + 1 := by
  obtain ⟨a, b, c, d, e, f⟩ := i
  unfold Id.inc at h
  simp only at h
  split at h
  · rename_i x hx; cases h; have := Dg.inc_false hx; simp only [Id.num]; omega
  · rename_i x hx
    have h1 := Dg.inc_true hx
    split at h
    · rename_i x hx; cases h; have := Dg.inc_false hx; simp only [Id.num]; omega
    · rename_i x hx
      have h2 := Dg.inc_true hx
      split at h
      · rename_i x hx; cases h; have := Dg.inc_false hx; simp only [Id.num]; omega
      · rename_i x hx
        have h3 := Dg.inc_true hx
        split at h
        · rename_i x hx; cases h; have := Dg.inc_false hx; simp only [Id.num]; omega
        · rename_i x hx
          have h4 := Dg.inc_true hx
          split at h
          · rename_i x hx; cases h; have := Dg.inc_false hx; simp only [Id.num]; omega
          · rename_i x hx
            have h5 := Dg.inc_true hx
            split at h
            · rename_i x hx; cases h; have := Dg.inc_false hx; simp only [Id.num]; omega
            · cases h

/-- where a block lies: the row, its first cell, how many cells the row has -/
structure CA where
  blk : Nat
  base : Nat
  lim : Nat

def AV.one (v : AV) : Bool := match v with
  | .ag _ => false
  | .tu _ => false
  | _ => true

mutual
/-- the model's value of one of ours -/
def VR (β : Id → CA) (D : Id → Prop) : AV → Value → Prop
  | .b x, V => V = .bool x
  | .i k x, V => V = .int k x
  | .s x, V => V = .string ⟨(x.map UInt8.ofNat).toArray⟩ ∧ ∀ b ∈ x, b < 256
  | .p0, V => V = .pointer none
  | .p id off, V => D id ∧ V = .pointer (some ⟨(β id).blk, (β id).base + off, none⟩)
  | .s0, V => V = .slice none 0 0
  | .sl id off len cap, V => D id ∧ V = .slice (some ⟨(β id).blk, (β id).base + off, none⟩) len cap
  | .so id off len k w, V => D id ∧ len ≤ k ∧ ∃ x cap, V = .slice (some ⟨(β id).blk, x, none⟩) len cap ∧ (k ≤ cap ∧ cap ≤ 9223372036854775807) ∧ (cap = 0 ∨ x = (β id).base + off) ∧ (β id).base + off + cap * w = (β id).lim
  | .f0, V => V = .nilFunc
  | .f fn a b, V => ∃ A B : List Value, V = .func (.func fn) A.toArray B.toArray ∧ VRs β D a A ∧ VRs β D b B
  | .i0, V => V = .nilIface
  | .m0, V => V = .map none
  | .m id, V => D id ∧ V = .map (some (β id).blk)
  | .ag xs, V => ∃ C : List Value, V = .agg C.toArray ∧ VRs β D xs C ∧ ∀ x ∈ xs, x.one = true
  | .tu xs, V => ∃ C : List Value, V = .tuple C.toArray ∧ VRs β D xs C
def VRs (β : Id → CA) (D : Id → Prop) : List AV → List Value → Prop
  | [], l => l = []
  | x :: xs, l => ∃ V Vs, l = V :: Vs ∧ VR β D x V ∧ VRs β D xs Vs
end

/-- names given, and where; what was given stays; the new names are of n to n' -/
structure Ext (β : Id → CA) (D : Id → Prop) (β' : Id → CA) (D' : Id → Prop) (n n' : Nat) : Prop where
  le : n ≤ n'
  keep : ∀ id, D id → D' id ∧ β' id = β id
  new : ∀ id, D' id → D id ∨ (n ≤ id.num ∧ id.num < n')

theorem Ext.refl (β : Id → CA) (D : Id → Prop) (n : Nat) : Ext β D β D n n := ⟨Nat.le_refl _, fun _ h => ⟨h, rfl⟩, fun _ h => .inl h⟩
theorem Ext.trans {β β' β'' : Id → CA} {D D' D'' : Id → Prop} {n n' n'' : Nat} (h : Ext β D β' D' n n') (k : Ext β' D' β'' D'' n' n'') : Ext β D β'' D'' n n'' :=
  ⟨Nat.le_trans h.le k.le, fun id hd => ⟨(k.keep id (h.keep id hd).1).1, (k.keep id (h.keep id hd).1).2.trans (h.keep id hd).2⟩, fun id hd => by
    have := h.le; have := k.le
    rcases k.new id hd with h1 | h1
    · rcases h.new id h1 with h2 | h2
      · exact .inl h2
      · exact .inr ⟨by omega, by omega⟩
    · exact .inr ⟨by omega, by omega⟩⟩

section
variable {β β' : Id → CA} {D D' : Id → Prop} {n n' : Nat}
mutual
theorem VR.mono (h : Ext β D β' D' n n') : ∀ (v : AV) (V : Value), VR β D v V → VR β' D' v V
  | .b _, _, hv | .i _ _, _, hv | .s _, _, hv | .p0, _, hv | .s0, _, hv | .f0, _, hv | .i0, _, hv | .m0, _, hv => by simpa [VR] using hv
  | .m id, V, hv => by
    simp only [VR] at hv ⊢
    exact ⟨(h.keep id hv.1).1, by rw [(h.keep id hv.1).2]; exact hv.2⟩
  | .p id off, V, hv => by
    simp only [VR] at hv ⊢
    exact ⟨(h.keep id hv.1).1, by rw [(h.keep id hv.1).2]; exact hv.2⟩
  | .sl id off len cap, V, hv => by
    simp only [VR] at hv ⊢
    exact ⟨(h.keep id hv.1).1, by rw [(h.keep id hv.1).2]; exact hv.2⟩
  | .so id off len k w, V, hv => by
    simp only [VR] at hv ⊢
    exact ⟨(h.keep id hv.1).1, by rw [(h.keep id hv.1).2]; exact hv.2⟩
  | .f fn a b, V, hv => by
    simp only [VR] at hv ⊢
    obtain ⟨A, B, h1, h2, h3⟩ := hv
    exact ⟨A, B, h1, VRs.mono h a A h2, VRs.mono h b B h3⟩
  | .ag xs, V, hv => by
    simp only [VR] at hv ⊢
    obtain ⟨C, h1, h2, h3⟩ := hv
    exact ⟨C, h1, VRs.mono h xs C h2, h3⟩
  | .tu xs, V, hv => by
    simp only [VR] at hv ⊢
    obtain ⟨C, h1, h2⟩ := hv
    exact ⟨C, h1, VRs.mono h xs C h2⟩
theorem VRs.mono (h : Ext β D β' D' n n') : ∀ (v : List AV) (V : List Value), VRs β D v V → VRs β' D' v V
  | [], V, hv => by simpa [VRs] using hv
  | x :: xs, V, hv => by
    simp only [VRs] at hv ⊢
    obtain ⟨U, Us, h1, h2, h3⟩ := hv
    exact ⟨U, Us, h1, VR.mono h x U h2, VRs.mono h xs Us h3⟩
end

theorem VR.one {v : AV} {V : Value} (h : VR β D v V) (h1 : v.one = true) : V.oneCell' = true := by
  cases v <;> simp only [VR, AV.one] at h h1 <;> first
    | (subst h; rfl)
    | (rw [h.2]; rfl)
    | (rw [h.1]; rfl)
    | (obtain ⟨_, _, x, cap, h, _⟩ := h; rw [h]; rfl)
    | (obtain ⟨A, B, h, _⟩ := h; rw [h]; rfl)
    | cases h1

theorem VRs.nil : VRs β D [] [] := by simp [VRs]
theorem VRs.cons {x : AV} {V : Value} {xs : List AV} {Vs : List Value} (h : VR β D x V) (hs : VRs β D xs Vs) : VRs β D (x :: xs) (V :: Vs) := by
  simp only [VRs]; exact ⟨V, Vs, rfl, h, hs⟩
theorem VRs.length : ∀ {xs : List AV} {Vs : List Value}, VRs β D xs Vs → Vs.length = xs.length
  | [], _, h => by simp only [VRs] at h; subst h; rfl
  | x :: xs, _, h => by
    simp only [VRs] at h
    obtain ⟨V, Vs, rfl, _, h⟩ := h
    simp [VRs.length h]
theorem VRs.get : ∀ {xs : List AV} {Vs : List Value}, VRs β D xs Vs → ∀ (j : Nat) (x : AV), xs[j]? = some x → ∃ V, Vs[j]? = some V ∧ VR β D x V
  | [], _, _, j, x, hx => by simp at hx
  | y :: ys, _, h, j, x, hx => by
    simp only [VRs] at h
    obtain ⟨V, Vs, rfl, hV, h⟩ := h
    cases j with
    | zero => simp at hx; subst hx; exact ⟨V, by simp, hV⟩
    | succ j => simp at hx; obtain ⟨U, h1, h2⟩ := VRs.get h j x hx; exact ⟨U, by simpa using h1, h2⟩
theorem VRs.back : ∀ {xs : List AV} {Vs : List Value}, VRs β D xs Vs → ∀ (j : Nat) (V : Value), Vs[j]? = some V → ∃ x, xs[j]? = some x ∧ VR β D x V
  | [], _, h, j, V, hV => by simp only [VRs] at h; subst h; simp at hV
  | y :: ys, _, h, j, W, hW => by
    simp only [VRs] at h
    obtain ⟨V, Vs, rfl, hV, h⟩ := h
    cases j with
    | zero => simp at hW; subst hW; exact ⟨y, by simp, hV⟩
    | succ j => simp at hW; obtain ⟨U, h1, h2⟩ := VRs.back h j W hW; exact ⟨U, by simpa using h1, h2⟩
theorem VRs.of : ∀ {xs : List AV} {Vs : List Value}, Vs.length = xs.length → (∀ (j : Nat) (x : AV) (V : Value), xs[j]? = some x → Vs[j]? = some V → VR β D x V) → VRs β D xs Vs
  | [], Vs, hl, _ => by simp only [VRs]; exact List.eq_nil_of_length_eq_zero (by simpa using hl)
  | x :: xs, [], hl, _ => by simp at hl
  | x :: xs, V :: Vs, hl, h => VRs.cons (h 0 x V (by simp) (by simp)) (VRs.of (by simpa using hl) (fun j y W h1 h2 => h (j + 1) y W (by simpa using h1) (by simpa using h2)))
theorem VRs.append : ∀ {xs ys : List AV} {Vs Ws : List Value}, VRs β D xs Vs → VRs β D ys Ws → VRs β D (xs ++ ys) (Vs ++ Ws)
  | [], _, _, _, h, k => by simp only [VRs] at h; subst h; exact k
  | x :: xs, ys, _, Ws, h, k => by
    simp only [VRs] at h
    obtain ⟨V, Vs, rfl, hV, h⟩ := h
    exact VRs.cons hV (VRs.append h k)
theorem VRs.take {xs : List AV} {Vs : List Value} (h : VRs β D xs Vs) (m : Nat) : VRs β D (xs.take m) (Vs.take m) := by
  refine VRs.of (by simp [h.length]) fun j x V h1 h2 => ?_
  rw [List.getElem?_take] at h1 h2
  split at h1
  · rename_i hj
    rw [if_pos hj] at h2
    obtain ⟨U, hU, hv⟩ := h.get j x h1
    rw [h2] at hU; cases hU; exact hv
  · cases h1
theorem VRs.drop {xs : List AV} {Vs : List Value} (h : VRs β D xs Vs) (m : Nat) : VRs β D (xs.drop m) (Vs.drop m) := by
  refine VRs.of (by simp [h.length]) fun j x V h1 h2 => ?_
  rw [List.getElem?_drop] at h1 h2
  obtain ⟨U, hU, hv⟩ := h.get _ x h1
  rw [h2] at hU; cases hU; exact hv
end

/-- what a string may share lies behind the cells, if at all -/
def fzok (z : Bool) (fz : Nat × Nat) (size : Nat) : Prop := match z with
  | true => fz.1 = fz.2 ∨ size ≤ fz.1
  | false => fz = (0, 0)

/-- the cells from o on of an array are these -/
structure Cells (β : Id → CA) (D : Id → Prop) (c : Array Value) (o : Nat) (l : List AV) : Prop where
  fit : o + l.length ≤ c.size
  one : ∀ v ∈ l, v.one = true
  get : ∀ j v, l[j]? = some v → ∃ V, c[o + j]? = some V ∧ VR β D v V

/-- what the block's marks say -/
structure Zok (z : Zf) (a : CA) (n : Nat) : Prop where
  b : z.b = true → a.base = 0
  t : z.t = true → a.base + n = a.lim
theorem Zok.over {z : Zf} {a : CA} {n : Nat} (h : Zok z a n) (lo m : Nat) : Zok (z.over lo) ⟨a.blk, a.base + lo, a.lim⟩ m := by
  refine ⟨fun e => ?_, fun e => by cases e⟩
  simp only [Zf.over, zc, Bool.and_eq_true] at e
  have := h.b e.1
  have := Nat.eq_of_beq_eq_true e.2
  simp only; omega
/-- a map's entries -/
def MapR (β : Id → CA) (D : Id → Prop) (es : List MapEntry) (clock : Nat) (l : List AV) : Prop := VRs β D l (.int .i64 clock :: es.flatMap fun e => [e.key, e.val, .int .i64 e.born])
/-- a block in the model's memory -/
def LiveB (β : Id → CA) (D : Id → Prop) (a : CA) (w : World) (k : Blk) : Prop := match k.z.m with
  | none => ∃ c el fz, w.heap[a.blk]? = some (.cells c el fz) ∧ c.size = a.lim ∧ fzok k.z.s fz c.size ∧ Cells β D c a.base k.c ∧ Zok k.z a k.c.length
  | some l => k.c = [] ∧ ∃ es clock, w.heap[a.blk]? = some (.map es clock) ∧ MapR β D es.toList clock l
structure HR (β : Id → CA) (D : Id → Prop) (B : Nat) (h : Heap) (w : World) : Prop where
  live : ∀ id k, h id = some k → D id ∧ LiveB β D (β id) w k
  inj : ∀ i j, h i ≠ none → h j ≠ none → (β i).blk = (β j).blk → i = j
  old : ∀ id, D id → B ≤ (β id).blk
  size : B ≤ w.heap.size

section
variable {β β' : Id → CA} {D D' : Id → Prop} {n n' B : Nat} {h : Heap} {w : World}

theorem Cells.mono {c : Array Value} {o : Nat} {l : List AV} (hx : Ext β D β' D' n n') (hc : Cells β D c o l) : Cells β' D' c o l :=
  ⟨hc.fit, hc.one, fun j v hv => let ⟨V, h1, h2⟩ := hc.get j v hv; ⟨V, h1, VR.mono hx v V h2⟩⟩

/-- A part of a block. -/
theorem Cells.part {c : Array Value} {o : Nat} {l : List AV} (hc : Cells β D c o l) (lo m : Nat) (hm : lo + m ≤ l.length) : Cells β D c (o + lo) ((l.drop lo).take m) := by
  refine ⟨?_, fun v hv => hc.one v (List.mem_of_mem_drop (List.mem_of_mem_take hv)), fun j v hv => ?_⟩
  · have := hc.fit
    rw [List.length_take, List.length_drop]; omega
  · rw [List.getElem?_take] at hv
    split at hv
    · rw [List.getElem?_drop] at hv
      obtain ⟨V, h1, h2⟩ := hc.get _ v hv
      exact ⟨V, by rw [Nat.add_assoc]; exact h1, h2⟩
    · cases hv
/-- The cells as a list of the model's. -/
theorem Cells.list {c : Array Value} {o : Nat} {l : List AV} (hc : Cells β D c o l) : ∃ Vs : List Value, VRs β D l Vs ∧ (∀ j V, Vs[j]? = some V → c[o + j]? = some V) ∧ ∀ V ∈ Vs, V.oneCell' = true := by
  refine ⟨(c.toList.drop o).take l.length, ?_, ?_, ?_⟩
  · refine VRs.of ?_ fun j x V h1 h2 => ?_
    · have := hc.fit
      rw [List.length_take, List.length_drop]; simp; omega
    · obtain ⟨U, hU, hv⟩ := hc.get j x h1
      rw [List.getElem?_take] at h2
      split at h2
      · rw [List.getElem?_drop] at h2
        simp at h2
        rw [hU] at h2; cases h2; exact hv
      · cases h2
  · intro j V hV
    rw [List.getElem?_take] at hV
    split at hV
    · rw [List.getElem?_drop] at hV
      simpa using hV
    · cases hV
  · intro V hV
    obtain ⟨j, hj⟩ := List.getElem?_of_mem hV
    have hj' := hj
    rw [List.getElem?_take] at hj
    split at hj
    · rename_i hlt
      rw [List.getElem?_drop] at hj
      obtain ⟨x, hx⟩ : ∃ x, l[j]? = some x := ⟨l[j], by simp [hlt]⟩
      obtain ⟨U, hU, hv⟩ := hc.get j x hx
      simp at hj
      rw [hU] at hj; cases hj
      exact hv.one (hc.one x (List.mem_of_getElem? hx))
    · cases hj

theorem LiveB.there {a : CA} {k : Blk} (hl : LiveB β D a w k) : ∃ o, w.heap[a.blk]? = some o := by
  unfold LiveB at hl
  split at hl
  · obtain ⟨c, el, fz, h, _⟩ := hl; exact ⟨_, h⟩
  · obtain ⟨_, es, cl, h, _⟩ := hl; exact ⟨_, h⟩
theorem LiveB.keep {a : CA} {k : Blk} {w' : World} (hl : LiveB β D a w k) (hx : Ext β D β' D' n n') (hw : w'.heap[a.blk]? = w.heap[a.blk]?) : LiveB β' D' a w' k := by
  unfold LiveB at hl ⊢
  split
  · rename_i hm
    rw [hm] at hl
    obtain ⟨c, el, fz, h1, h2, h3, h4, h5⟩ := hl
    exact ⟨c, el, fz, by rw [hw]; exact h1, h2, h3, Cells.mono hx h4, h5⟩
  · rename_i l hm
    rw [hm] at hl
    obtain ⟨h0, es, cl, h1, h2⟩ := hl
    exact ⟨h0, es, cl, by rw [hw]; exact h1, VRs.mono hx _ _ h2⟩
theorem HR.cells (hr : HR β D B h w) {id : Id} {k : Blk} (hk : h id = some k) (hm : k.z.m = none) :
    D id ∧ ∃ c el fz, w.heap[(β id).blk]? = some (.cells c el fz) ∧ c.size = (β id).lim ∧ fzok k.z.s fz c.size ∧ Cells β D c (β id).base k.c ∧ Zok k.z (β id) k.c.length := by
  obtain ⟨hd, hl⟩ := hr.live id k hk
  unfold LiveB at hl
  rw [hm] at hl
  exact ⟨hd, hl⟩
/-- A block that has cells is none of a map's. -/
theorem HR.notMap (hr : HR β D B h w) {id : Id} {k : Blk} (hk : h id = some k) (hn : 0 < k.c.length) : k.z.m = none := by
  obtain ⟨hd, hl⟩ := hr.live id k hk
  unfold LiveB at hl
  cases hm : k.z.m with
  | none => rfl
  | some l =>
    rw [hm] at hl
    rw [hl.1] at hn
    exact absurd hn (Nat.lt_irrefl 0)
theorem Ext.drew_heap (hr : HR β D B h w) {w' : World} (he : w'.heap = w.heap) : HR β D B h w' :=
  ⟨fun id k hk => ⟨(hr.live id k hk).1, (hr.live id k hk).2.keep (Ext.refl β D 0) (by rw [he])⟩, hr.inj, hr.old, by rw [he]; exact hr.size⟩

/-- Reading. -/
theorem HR.read (hr : HR β D B h w) {id : Id} {k : Blk} (hk : h id = some k) (hz0 : k.z.m = none) (lo m : Nat) (hm : lo + m ≤ k.c.length) :
    ∃ Vs : List Value, VRs β D ((k.c.drop lo).take m) Vs ∧ Vs.length = m ∧ (∀ j V, Vs[j]? = some V → w.cell? ⟨(β id).blk, (β id).base + lo + j, none⟩ = some V) ∧ (∀ V ∈ Vs, V.oneCell' = true) ∧ ∀ v ∈ (k.c.drop lo).take m, v.one = true := by
  obtain ⟨hd, c, el, fz, hb, hs, hf, hc, hz⟩ := hr.cells hk hz0
  have hp := hc.part lo m hm
  obtain ⟨Vs, h1, h2, h3⟩ := hp.list
  refine ⟨Vs, h1, ?_, fun j V hV => ?_, h3, hp.one⟩
  · rw [h1.length, List.length_take, List.length_drop]; omega
  · simp only [World.cell?, hb]
    exact h2 j V hV
theorem HR.there (hr : HR β D B h w) {id : Id} {k : Blk} (hk : h id = some k) (hz0 : k.z.m = none) (o : Nat) (ho : o < (β id).lim) :
    (w.cell? ⟨(β id).blk, o, none⟩).isSome = true ∧ w.frozen? ⟨(β id).blk, o, none⟩ = false := by
  obtain ⟨hd, c, el, fz, hb, hs, hf, hc, hz⟩ := hr.cells hk hz0
  obtain ⟨⟨z, zb, zt, zm⟩, kc⟩ := k
  constructor
  · simp only [World.cell?, hb]
    simp
    omega
  · simp only [World.frozen?, hb]
    cases z
    · simp only [fzok] at hf
      subst hf
      simp
    · simp only [fzok] at hf
      obtain ⟨a, b⟩ := fz
      simp only at hf ⊢
      simp
      omega
end
end Ev
end Go.Proofs.YthknbcbkibbncaaGreat
