/- DERIVED. The evaluator's memory against the model's: values, blocks, what a read, a write, a new block do to both. -/
import Derived.WalkKit
import Derived.Laws.IdiomCopy
import Derived.Below
import Derived.Test.YthknbcbkibbncaaGreatCn2
import Derived.Test.YthknbcbkibbncaaGreatCn3
set_option linter.all false
namespace Go.Proofs.YthknbcbkibbncaaGreat
namespace Ev
open Go.RowKit

theorem Dg.val_lt (d : Dg) : d.val < 8 := by cases d <;> decide
theorem Dg.val_inj {a b : Dg} (h : a.val = b.val) : a = b := by cases a <;> cases b <;> first | rfl | (exact absurd h (by decide))
theorem Id.num_inj {i j : Id} (h : i.num = j.num) : i = j := by
  obtain ⟨a, b, c, d, e, f⟩ := i
  obtain ⟨a', b', c', d', e', f'⟩ := j
  simp only [Id.num] at h
  have := a.val_lt; have := b.val_lt; have := c.val_lt; have := d.val_lt; have := e.val_lt; have := f.val_lt
  have := a'.val_lt; have := b'.val_lt; have := c'.val_lt; have := d'.val_lt; have := e'.val_lt; have := f'.val_lt
  rw [Dg.val_inj (show a.val = a'.val by omega), Dg.val_inj (show b.val = b'.val by omega), Dg.val_inj (show c.val = c'.val by omega), Dg.val_inj (show d.val = d'.val by omega),
    Dg.val_inj (show e.val = e'.val by omega), Dg.val_inj (show f.val = f'.val by omega)]
theorem Dg.inc_false {d d' : Dg} (h : d.inc = (d', false)) : d'.val = d.val + 1 := by cases d <;> cases h <;> rfl
theorem Dg.inc_true {d d' : Dg} (h : d.inc = (d', true)) : d.val = 7 ∧ d'.val = 0 := by cases d <;> cases h <;> exact ⟨rfl, rfl⟩
theorem Id.inc_num {i j : Id} (h : i.inc = some j) : j.num = i.num + 1 := by
  obtain ⟨a, b, c, d, e, f⟩ := i
  unfold Id.inc at h
  simp only at h
  split at h
  · rename_i x hx; cases h; have := Dg.inc_false hx; simp only [Id.num]; omega
  · rename_i x hx
    have h1 := Dg.inc_true hx
    split at h
    · rename_i x hx; cases h; have := Dg.inc_false hx; simp only [Id.num]; omega
    · rename_i x hx
      have h2 := Dg.inc_true hx
      split at h
      · rename_i x hx; cases h; have := Dg.inc_false hx; simp only [Id.num]; omega
      · rename_i x hx
        have h3 := Dg.inc_true hx
        split at h
        · rename_i x hx; cases h; have := Dg.inc_false hx; simp only [Id.num]; omega
        · rename_i x hx
          have h4 := Dg.inc_true hx
          split at h
          · rename_i x hx; cases h; have := Dg.inc_false hx; simp only [Id.num]; omega
          · rename_i x hx
            have h5 := Dg.inc_true hx
            split at h
            · rename_i x hx; cases h; have := Dg.inc_false hx; simp only [Id.num]; omega
            · cases h

structure CA where
  blk : Nat
  base : Nat
  lim : Nat

def AV.one (v : AV) : Bool := match v with
  | .ag _ => false
  | .tu _ => false
  | _ => true

mutual
def VR (β : Id → CA) (D : Id → Prop) : AV → Value → Prop
  | .b x, V => V = .bool x
  | .i k x, V => V = .int k x
  | .s x, V => V = .string ⟨(x.map UInt8.ofNat).toArray⟩ ∧ ∀ b ∈ x, b < 256
  | .p0, V => V = .pointer none
  | .p id off, V => D id ∧ V = .pointer (some ⟨(β id).blk, (β id).base + off, none⟩)
  | .s0, V => V = .slice none 0 0
  | .sl id off len cap, V => D id ∧ V = .slice (some ⟨(β id).blk, (β id).base + off, none⟩) len cap
  | .so id off len k w, V => D id ∧ len ≤ k ∧ ∃ x cap, V = .slice (some ⟨(β id).blk, x, none⟩) len cap ∧ (k ≤ cap ∧ cap ≤ 9223372036854775807) ∧ (cap = 0 ∨ x = (β id).base + off) ∧ (β id).base + off + cap * w = (β id).lim
  | .f0, V => V = .nilFunc
  | .f fn a b, V => ∃ A B : List Value, V = .func (.func fn) A.toArray B.toArray ∧ VRs β D a A ∧ VRs β D b B
  | .i0, V => V = .nilIface
  | .m0, V => V = .map none
  | .m id, V => D id ∧ V = .map (some (β id).blk)
  | .ag xs, V => ∃ C : List Value, V = .agg C.toArray ∧ VRs β D xs C ∧ ∀ x ∈ xs, x.one = true
  | .tu xs, V => ∃ C : List Value, V = .tuple C.toArray ∧ VRs β D xs C
def VRs (β : Id → CA) (D : Id → Prop) : List AV → List Value → Prop
  | [], l => l = []
  | x :: xs, l => ∃ V Vs, l = V :: Vs ∧ VR β D x V ∧ VRs β D xs Vs
end

structure Ext (β : Id → CA) (D : Id → Prop) (β' : Id → CA) (D' : Id → Prop) (n n' : Nat) : Prop where
  le : n ≤ n'
  keep : ∀ id, D id → D' id ∧ β' id = β id
  new : ∀ id, D' id → D id ∨ (n ≤ id.num ∧ id.num < n')

theorem Ext.refl (β : Id → CA) (D : Id → Prop) (n : Nat) : Ext β D β D n n := ⟨Nat.le_refl _, fun _ h => ⟨h, rfl⟩, fun _ h => .inl h⟩
theorem Ext.trans {β β' β'' : Id → CA} {D D' D'' : Id → Prop} {n n' n'' : Nat} (h : Ext β D β' D' n n') (k : Ext β' D' β'' D'' n' n'') : Ext β D β'' D'' n n'' :=
  ⟨Nat.le_trans h.le k.le, fun id hd => ⟨(k.keep id (h.keep id hd).1).1, (k.keep id (h.keep id hd).1).2.trans (h.keep id hd).2⟩, fun id hd => by
    have := h.le; have := k.le
    rcases k.new id hd with h1 | h1
    · rcases h.new id h1 with h2 | h2
      · exact .inl h2
      · exact .inr ⟨by omega, by omega⟩
    · exact .inr ⟨by omega, by omega⟩⟩

section
variable {β β' : Id → CA} {D D' : Id → Prop} {n n' : Nat}
mutual
theorem VR.mono (h : Ext β D β' D' n n') : ∀ (v : AV) (V : Value), VR β D v V → VR β' D' v V
  | .b _, _, hv | .i _ _, _, hv | .s _, _, hv | .p0, _, hv | .s0, _, hv | .f0, _, hv | .i0, _, hv | .m0, _, hv => by simpa [VR] using hv
  | .m id, V, hv => by
    simp only [VR] at hv ⊢
    exact ⟨(h.keep id hv.1).1, by rw [(h.keep id hv.1).2]; exact hv.2⟩
  | .p id off, V, hv => by
    simp only [VR] at hv ⊢
    exact ⟨(h.keep id hv.1).1, by rw [(h.keep id hv.1).2]; exact hv.2⟩
  | .sl id off len cap, V, hv => by
    simp only [VR] at hv ⊢
    exact ⟨(h.keep id hv.1).1, by rw [(h.keep id hv.1).2]; exact hv.2⟩
  | .so id off len k w, V, hv => by
    simp only [VR] at hv ⊢
    exact ⟨(h.keep id hv.1).1, by rw [(h.keep id hv.1).2]; exact hv.2⟩
  | .f fn a b, V, hv => by
    simp only [VR] at hv ⊢
    obtain ⟨A, B, h1, h2, h3⟩ := hv
    exact ⟨A, B, h1, VRs.mono h a A h2, VRs.mono h b B h3⟩
  | .ag xs, V, hv => by
    simp only [VR] at hv ⊢
    obtain ⟨C, h1, h2, h3⟩ := hv
    exact ⟨C, h1, VRs.mono h xs C h2, h3⟩
  | .tu xs, V, hv => by
    simp only [VR] at hv ⊢
    obtain ⟨C, h1, h2⟩ := hv
    exact ⟨C, h1, VRs.mono h xs C h2⟩
theorem VRs.mono (h : Ext β D β' D' n n') : ∀ (v : List AV) (V : List Value), VRs β D v V → VRs β' D' v V
  | [], V, hv => by simpa [VRs] using hv
  | x :: xs, V, hv => by
    simp only [VRs] at hv ⊢
    obtain ⟨U, Us, h1, h2, h3⟩ := hv
    exact ⟨U, Us, h1, VR.mono h x U h2, VRs.mono h xs Us h3⟩
end

theorem VR.one {v : AV} {V : Value} (h : VR β D v V) (h1 : v.one = true) : V.oneCell' = true := by
  cases v <;> simp only [VR, AV.one] at h h1 <;> first
    | (subst h; rfl)
    | (rw [h.2]; rfl)
    | (rw [h.1]; rfl)
    | (obtain ⟨_, _, x, cap, h, _⟩ := h; rw [h]; rfl)
    | (obtain ⟨A, B, h, _⟩ := h; rw [h]; rfl)
    | cases h1

theorem VRs.nil : VRs β D [] [] := by simp [VRs]
theorem VRs.cons {x : AV} {V : Value} {xs : List AV} {Vs : List Value} (h : VR β D x V) (hs : VRs β D xs Vs) : VRs β D (x :: xs) (V :: Vs) := by
  simp only [VRs]; exact ⟨V, Vs, rfl, h, hs⟩
theorem VRs.length : ∀ {xs : List AV} {Vs : List Value}, VRs β D xs Vs → Vs.length = xs.length
  | [], _, h => by simp only [VRs] at h; subst h; rfl
  | x :: xs, _, h => by
    simp only [VRs] at h
    obtain ⟨V, Vs, rfl, _, h⟩ := h
    simp [VRs.length h]
theorem VRs.get : ∀ {xs : List AV} {Vs : List Value}, VRs β D xs Vs → ∀ (j : Nat) (x : AV), xs[j]? = some x → ∃ V, Vs[j]? = some V ∧ VR β D x V
  | [], _, _, j, x, hx => by simp at hx
  | y :: ys, _, h, j, x, hx => by
    simp only [VRs] at h
    obtain ⟨V, Vs, rfl, hV, h⟩ := h
    cases j with
    | zero => simp at hx; subst hx; exact ⟨V, by simp, hV⟩
    | succ j => simp at hx; obtain ⟨U, h1, h2⟩ := VRs.get h j x hx; exact ⟨U, by simpa using h1, h2⟩
theorem VRs.back : ∀ {xs : List AV} {Vs : List Value}, VRs β D xs Vs → ∀ (j : Nat) (V : Value), Vs[j]? = some V → ∃ x, xs[j]? = some x ∧ VR β D x V
  | [], _, h, j, V, hV => by simp only [VRs] at h; subst h; simp at hV
  | y :: ys, _, h, j, W, hW => by
    simp only [VRs] at h
    obtain ⟨V, Vs, rfl, hV, h⟩ := h
    cases j with
    | zero => simp at hW; subst hW; exact ⟨y, by simp, hV⟩
    | succ j => simp at hW; obtain ⟨U, h1, h2⟩ := VRs.back h j W hW; exact ⟨U, by simpa using h1, h2⟩
theorem VRs.of : ∀ {xs : List AV} {Vs : List Value}, Vs.length = xs.length → (∀ (j : Nat) (x : AV) (V : Value), xs[j]? = some x → Vs[j]? = some V → VR β D x V) → VRs β D xs Vs
  | [], Vs, hl, _ => by simp only [VRs]; exact List.eq_nil_of_length_eq_zero (by simpa using hl)
  | x :: xs, [], hl, _ => by simp at hl
  | x :: xs, V :: Vs, hl, h => VRs.cons (h 0 x V (by simp) (by simp)) (VRs.of (by simpa using hl) (fun j y W h1 h2 => h (j + 1) y W (by simpa using h1) (by simpa using h2)))
theorem VRs.append : ∀ {xs ys : List AV} {Vs Ws : List Value}, VRs β D xs Vs → VRs β D ys Ws → VRs β D (xs ++ ys) (Vs ++ Ws)
  | [], _, _, _, h, k => by simp only [VRs] at h; subst h; exact k
  | x :: xs, ys, _, Ws, h, k => by
    simp only [VRs] at h
    obtain ⟨V, Vs, rfl, hV, h⟩ := h
    exact VRs.cons hV (VRs.append h k)
theorem VRs.take {xs : List AV} {Vs : List Value} (h : VRs β D xs Vs) (m : Nat) : VRs β D (xs.take m) (Vs.take m) := by
  refine VRs.of (by simp [h.length]) fun j x V h1 h2 => ?_
  rw [List.getElem?_take] at h1 h2
  split at h1
  · rename_i hj
    rw [if_pos hj] at h2
    obtain ⟨U, hU, hv⟩ := h.get j x h1
    rw [h2] at hU; cases hU; exact hv
  · cases h1
theorem VRs.drop {xs : List AV} {Vs : List Value} (h : VRs β D xs Vs) (m : Nat) : VRs β D (xs.drop m) (Vs.drop m) := by
  refine VRs.of (by simp [h.length]) fun j x V h1 h2 => ?_
  rw [List.getElem?_drop] at h1 h2
  obtain ⟨U, hU, hv⟩ := h.get _ x h1
  rw [h2] at hU; cases hU; exact hv
end

def fzok (z : Bool) (fz : Nat × Nat) (size : Nat) : Prop := match z with
  | true => fz.1 = fz.2 ∨ size ≤ fz.1
  | false => fz = (0, 0)

structure Cells (β : Id → CA) (D : Id → Prop) (c : Array Value) (o : Nat) (l : List AV) : Prop where
  fit : o + l.length ≤ c.size
  one : ∀ v ∈ l, v.one = true
  get : ∀ j v, l[j]? = some v → ∃ V, c[o + j]? = some V ∧ VR β D v V

structure Zok (z : Zf) (a : CA) (n : Nat) : Prop where
  b : z.b = true → a.base = 0
  t : z.t = true → a.base + n = a.lim
theorem Zok.over {z : Zf} {a : CA} {n : Nat} (h : Zok z a n) (lo m : Nat) : Zok (z.over lo) ⟨a.blk, a.base + lo, a.lim⟩ m := by
  refine ⟨fun e => ?_, fun e => by cases e⟩
  simp only [Zf.over, zc, Bool.and_eq_true] at e
  have := h.b e.1
  have := Nat.eq_of_beq_eq_true e.2
  simp only; omega
def MapR (β : Id → CA) (D : Id → Prop) (es : List MapEntry) (clock : Nat) (l : List AV) : Prop := VRs β D l (.int .i64 clock :: es.flatMap fun e => [e.key, e.val, .int .i64 e.born])
def LiveB (β : Id → CA) (D : Id → Prop) (a : CA) (w : World) (k : Blk) : Prop := match k.z.m with
  | none => ∃ c el fz, w.heap[a.blk]? = some (.cells c el fz) ∧ c.size = a.lim ∧ fzok k.z.s fz c.size ∧ Cells β D c a.base k.c ∧ Zok k.z a k.c.length
  | some l => k.c = [] ∧ ∃ es clock, w.heap[a.blk]? = some (.map es clock) ∧ MapR β D es.toList clock l
structure HR (β : Id → CA) (D : Id → Prop) (B : Nat) (h : Heap) (w : World) : Prop where
  live : ∀ id k, h id = some k → D id ∧ LiveB β D (β id) w k
  inj : ∀ i j, h i ≠ none → h j ≠ none → (β i).blk = (β j).blk → i = j
  old : ∀ id, D id → B ≤ (β id).blk
  size : B ≤ w.heap.size

section
variable {β β' : Id → CA} {D D' : Id → Prop} {n n' B : Nat} {h : Heap} {w : World}

theorem Cells.mono {c : Array Value} {o : Nat} {l : List AV} (hx : Ext β D β' D' n n') (hc : Cells β D c o l) : Cells β' D' c o l :=
  ⟨hc.fit, hc.one, fun j v hv => let ⟨V, h1, h2⟩ := hc.get j v hv; ⟨V, h1, VR.mono hx v V h2⟩⟩

theorem Cells.part {c : Array Value} {o : Nat} {l : List AV} (hc : Cells β D c o l) (lo m : Nat) (hm : lo + m ≤ l.length) : Cells β D c (o + lo) ((l.drop lo).take m) := by
  refine ⟨?_, fun v hv => hc.one v (List.mem_of_mem_drop (List.mem_of_mem_take hv)), fun j v hv => ?_⟩
  · have := hc.fit
    rw [List.length_take, List.length_drop]; omega
  · rw [List.getElem?_take] at hv
    split at hv
    · rw [List.getElem?_drop] at hv
      obtain ⟨V, h1, h2⟩ := hc.get _ v hv
      exact ⟨V, by rw [Nat.add_assoc]; exact h1, h2⟩
    · cases hv
theorem Cells.list {c : Array Value} {o : Nat} {l : List AV} (hc : Cells β D c o l) : ∃ Vs : List Value, VRs β D l Vs ∧ (∀ j V, Vs[j]? = some V → c[o + j]? = some V) ∧ ∀ V ∈ Vs, V.oneCell' = true := by
  refine ⟨(c.toList.drop o).take l.length, ?_, ?_, ?_⟩
  · refine VRs.of ?_ fun j x V h1 h2 => ?_
    · have := hc.fit
      rw [List.length_take, List.length_drop]; simp; omega
    · obtain ⟨U, hU, hv⟩ := hc.get j x h1
      rw [List.getElem?_take] at h2
      split at h2
      · rw [List.getElem?_drop] at h2
        simp at h2
        rw [hU] at h2; cases h2; exact hv
      · cases h2
  · intro j V hV
    rw [List.getElem?_take] at hV
    split at hV
    · rw [List.getElem?_drop] at hV
      simpa using hV
    · cases hV
  · intro V hV
    obtain ⟨j, hj⟩ := List.getElem?_of_mem hV
    have hj' := hj
    rw [List.getElem?_take] at hj
    split at hj
    · rename_i hlt
      rw [List.getElem?_drop] at hj
      obtain ⟨x, hx⟩ : ∃ x, l[j]? = some x := ⟨l[j], by simp [hlt]⟩
      obtain ⟨U, hU, hv⟩ := hc.get j x hx
      simp at hj
      rw [hU] at hj; cases hj
      exact hv.one (hc.one x (List.mem_of_getElem? hx))
    · cases hj

theorem LiveB.there {a : CA} {k : Blk} (hl : LiveB β D a w k) : ∃ o, w.heap[a.blk]? = some o := by
  unfold LiveB at hl
  split at hl
  · obtain ⟨c, el, fz, h, _⟩ := hl; exact ⟨_, h⟩
  · obtain ⟨_, es, cl, h, _⟩ := hl; exact ⟨_, h⟩
theorem LiveB.keep {a : CA} {k : Blk} {w' : World} (hl : LiveB β D a w k) (hx : Ext β D β' D' n n') (hw : w'.heap[a.blk]? = w.heap[a.blk]?) : LiveB β' D' a w' k := by
  unfold LiveB at hl ⊢
  split
  · rename_i hm
    rw [hm] at hl
    obtain ⟨c, el, fz, h1, h2, h3, h4, h5⟩ := hl
    exact ⟨c, el, fz, by rw [hw]; exact h1, h2, h3, Cells.mono hx h4, h5⟩
  · rename_i l hm
    rw [hm] at hl
    obtain ⟨h0, es, cl, h1, h2⟩ := hl
    exact ⟨h0, es, cl, by rw [hw]; exact h1, VRs.mono hx _ _ h2⟩
theorem HR.cells (hr : HR β D B h w) {id : Id} {k : Blk} (hk : h id = some k) (hm : k.z.m = none) :
    D id ∧ ∃ c el fz, w.heap[(β id).blk]? = some (.cells c el fz) ∧ c.size = (β id).lim ∧ fzok k.z.s fz c.size ∧ Cells β D c (β id).base k.c ∧ Zok k.z (β id) k.c.length := by
  obtain ⟨hd, hl⟩ := hr.live id k hk
  unfold LiveB at hl
  rw [hm] at hl
  exact ⟨hd, hl⟩
theorem HR.notMap (hr : HR β D B h w) {id : Id} {k : Blk} (hk : h id = some k) (hn : 0 < k.c.length) : k.z.m = none := by
  obtain ⟨hd, hl⟩ := hr.live id k hk
  unfold LiveB at hl
  cases hm : k.z.m with
  | none => rfl
  | some l =>
    rw [hm] at hl
    rw [hl.1] at hn
    exact absurd hn (Nat.lt_irrefl 0)
theorem Ext.drew_heap (hr : HR β D B h w) {w' : World} (he : w'.heap = w.heap) : HR β D B h w' :=
  ⟨fun id k hk => ⟨(hr.live id k hk).1, (hr.live id k hk).2.keep (Ext.refl β D 0) (by rw [he])⟩, hr.inj, hr.old, by rw [he]; exact hr.size⟩

theorem HR.read (hr : HR β D B h w) {id : Id} {k : Blk} (hk : h id = some k) (hz0 : k.z.m = none) (lo m : Nat) (hm : lo + m ≤ k.c.length) :
    ∃ Vs : List Value, VRs β D ((k.c.drop lo).take m) Vs ∧ Vs.length = m ∧ (∀ j V, Vs[j]? = some V → w.cell? ⟨(β id).blk, (β id).base + lo + j, none⟩ = some V) ∧ (∀ V ∈ Vs, V.oneCell' = true) ∧ ∀ v ∈ (k.c.drop lo).take m, v.one = true := by
  obtain ⟨hd, c, el, fz, hb, hs, hf, hc, hz⟩ := hr.cells hk hz0
  have hp := hc.part lo m hm
  obtain ⟨Vs, h1, h2, h3⟩ := hp.list
  refine ⟨Vs, h1, ?_, fun j V hV => ?_, h3, hp.one⟩
  · rw [h1.length, List.length_take, List.length_drop]; omega
  · simp only [World.cell?, hb]
    exact h2 j V hV
theorem HR.there (hr : HR β D B h w) {id : Id} {k : Blk} (hk : h id = some k) (hz0 : k.z.m = none) (o : Nat) (ho : o < (β id).lim) :
    (w.cell? ⟨(β id).blk, o, none⟩).isSome = true ∧ w.frozen? ⟨(β id).blk, o, none⟩ = false := by
  obtain ⟨hd, c, el, fz, hb, hs, hf, hc, hz⟩ := hr.cells hk hz0
  obtain ⟨⟨z, zb, zt, zm⟩, kc⟩ := k
  constructor
  · simp only [World.cell?, hb]
    simp
    omega
  · simp only [World.frozen?, hb]
    cases z
    · simp only [fzok] at hf
      subst hf
      simp
    · simp only [fzok] at hf
      obtain ⟨a, b⟩ := fz
      simp only at hf ⊢
      simp
      omega
end
end Ev
end Go.Proofs.YthknbcbkibbncaaGreat

/- DERIVED. The quick evaluator's memory, against the plain one's. -/
set_option linter.unusedVariables false
namespace Go.Proofs.YthknbcbkibbncaaGreat
namespace Ev
namespace Kq

noncomputable def up {α : Type} (d : Dg) (f : α → α) (t : N8 α) : N8 α := match d with
  | .d0 => ⟨f t.c0, t.c1, t.c2, t.c3, t.c4, t.c5, t.c6, t.c7⟩
  | .d1 => ⟨t.c0, f t.c1, t.c2, t.c3, t.c4, t.c5, t.c6, t.c7⟩
  | .d2 => ⟨t.c0, t.c1, f t.c2, t.c3, t.c4, t.c5, t.c6, t.c7⟩
  | .d3 => ⟨t.c0, t.c1, t.c2, f t.c3, t.c4, t.c5, t.c6, t.c7⟩
  | .d4 => ⟨t.c0, t.c1, t.c2, t.c3, f t.c4, t.c5, t.c6, t.c7⟩
  | .d5 => ⟨t.c0, t.c1, t.c2, t.c3, t.c4, f t.c5, t.c6, t.c7⟩
  | .d6 => ⟨t.c0, t.c1, t.c2, t.c3, t.c4, t.c5, f t.c6, t.c7⟩
  | .d7 => ⟨t.c0, t.c1, t.c2, t.c3, t.c4, t.c5, t.c6, f t.c7⟩
theorem gt_up {α : Type} (d : Dg) (f : α → α) (t : N8 α) : gt d (up d f t) = f (gt d t) := by
  cases d <;> cases t <;> rfl
theorem gt_up_ne {α : Type} {d d' : Dg} (f : α → α) (t : N8 α) (h : d' ≠ d) : gt d' (up d f t) = gt d' t := by
  cases d <;> cases d' <;> first | exact absurd rfl h | (cases t; rfl)
theorem gt_all {α : Type} (d : Dg) (x : α) : gt d (N8.all x) = x := by cases d <;> rfl
theorem us_eq {α : Type} (d : Dg) {f : α → (α → Bool) → Bool} {f' : α → α} (h : ∀ c k, f c k = k (f' c)) (t : N8 α) (k : N8 α → Bool) : (us d).f α f t k = k (up d f' t) := by
  cases d <;> cases t <;> exact h _ _
section
variable (d : Dg)
theorem g0_eq : g0 d = gt d := by cases d <;> rfl
theorem g1_eq : g1 d = gt d := by cases d <;> rfl
theorem g2_eq : g2 d = gt d := by cases d <;> rfl
theorem g3_eq : g3 d = gt d := by cases d <;> rfl
theorem g4_eq : g4 d = gt d := by cases d <;> rfl
theorem g5_eq : g5 d = gt d := by cases d <;> rfl
theorem gB_eq : gB d = gt d := by cases d <;> rfl
theorem gH1_eq : gH1 d = gt d := by cases d <;> rfl
theorem gH2_eq : gH2 d = gt d := by cases d <;> rfl
theorem gH3_eq : gH3 d = gt d := by cases d <;> rfl
theorem gH4_eq : gH4 d = gt d := by cases d <;> rfl
theorem gH5_eq : gH5 d = gt d := by cases d <;> rfl
theorem w0_eq : w0 d = up d := by cases d <;> rfl
theorem w1_eq : w1 d = up d := by cases d <;> rfl
theorem w2_eq : w2 d = up d := by cases d <;> rfl
theorem w3_eq : w3 d = up d := by cases d <;> rfl
theorem w4_eq : w4 d = up d := by cases d <;> rfl
theorem w5_eq : w5 d = up d := by cases d <;> rfl
theorem u0_eq {f : AV → (AV → Bool) → Bool} {f' : AV → AV} (h : ∀ c k, f c k = k (f' c)) (t : N8 (AV)) (k : N8 (AV) → Bool) : u0 d f t k = k (up d f' t) := by
  cases d <;> cases t <;> exact h _ _
theorem u1_eq {f : L1 → (L1 → Bool) → Bool} {f' : L1 → L1} (h : ∀ c k, f c k = k (f' c)) (t : N8 (L1)) (k : N8 (L1) → Bool) : u1 d f t k = k (up d f' t) := by
  cases d <;> cases t <;> exact h _ _
theorem u2_eq {f : L2 → (L2 → Bool) → Bool} {f' : L2 → L2} (h : ∀ c k, f c k = k (f' c)) (t : N8 (L2)) (k : N8 (L2) → Bool) : u2 d f t k = k (up d f' t) := by
  cases d <;> cases t <;> exact h _ _
theorem u3_eq {f : L3 → (L3 → Bool) → Bool} {f' : L3 → L3} (h : ∀ c k, f c k = k (f' c)) (t : N8 (L3)) (k : N8 (L3) → Bool) : u3 d f t k = k (up d f' t) := by
  cases d <;> cases t <;> exact h _ _
theorem u4_eq {f : L4 → (L4 → Bool) → Bool} {f' : L4 → L4} (h : ∀ c k, f c k = k (f' c)) (t : N8 (L4)) (k : N8 (L4) → Bool) : u4 d f t k = k (up d f' t) := by
  cases d <;> cases t <;> exact h _ _
theorem u5_eq {f : L5 → (L5 → Bool) → Bool} {f' : L5 → L5} (h : ∀ c k, f c k = k (f' c)) (t : N8 (L5)) (k : N8 (L5) → Bool) : u5 d f t k = k (up d f' t) := by
  cases d <;> cases t <;> exact h _ _
theorem uB_eq {f : OB → (OB → Bool) → Bool} {f' : OB → OB} (h : ∀ c k, f c k = k (f' c)) (t : N8 (OB)) (k : N8 (OB) → Bool) : uB d f t k = k (up d f' t) := by
  cases d <;> cases t <;> exact h _ _
theorem uH1_eq {f : H1 → (H1 → Bool) → Bool} {f' : H1 → H1} (h : ∀ c k, f c k = k (f' c)) (t : N8 (H1)) (k : N8 (H1) → Bool) : uH1 d f t k = k (up d f' t) := by
  cases d <;> cases t <;> exact h _ _
theorem uH2_eq {f : H2 → (H2 → Bool) → Bool} {f' : H2 → H2} (h : ∀ c k, f c k = k (f' c)) (t : N8 (H2)) (k : N8 (H2) → Bool) : uH2 d f t k = k (up d f' t) := by
  cases d <;> cases t <;> exact h _ _
theorem uH3_eq {f : H3 → (H3 → Bool) → Bool} {f' : H3 → H3} (h : ∀ c k, f c k = k (f' c)) (t : N8 (H3)) (k : N8 (H3) → Bool) : uH3 d f t k = k (up d f' t) := by
  cases d <;> cases t <;> exact h _ _
theorem uH4_eq {f : H4 → (H4 → Bool) → Bool} {f' : H4 → H4} (h : ∀ c k, f c k = k (f' c)) (t : N8 (H4)) (k : N8 (H4) → Bool) : uH4 d f t k = k (up d f' t) := by
  cases d <;> cases t <;> exact h _ _
theorem uH5_eq {f : H5 → (H5 → Bool) → Bool} {f' : H5 → H5} (h : ∀ c k, f c k = k (f' c)) (t : N8 (H5)) (k : N8 (H5) → Bool) : uH5 d f t k = k (up d f' t) := by
  cases d <;> cases t <;> exact h _ _
end
theorem look_eq (id : Id) (h : H6) : look id h = gt id.f (gt id.e (gt id.d (gt id.c (gt id.b (gt id.a h))))) := by
  simp only [look, gB_eq, gH1_eq, gH2_eq, gH3_eq, gH4_eq, gH5_eq]
noncomputable def layS (id : Id) (b : OB) (h : H6) : H6 := up id.a (up id.b (up id.c (up id.d (up id.e (up id.f fun _ => b))))) h
theorem lay_eq (id : Id) (b : OB) (h : H6) (k : H6 → Bool) : lay id b h k = k (layS id b h) := by
  refine uH5_eq id.a (f' := up id.b (up id.c (up id.d (up id.e (up id.f fun _ => b))))) (fun c k => ?_) h k
  refine uH4_eq id.b (f' := up id.c (up id.d (up id.e (up id.f fun _ => b)))) (fun c k => ?_) c k
  refine uH3_eq id.c (f' := up id.d (up id.e (up id.f fun _ => b))) (fun c k => ?_) c k
  refine uH2_eq id.d (f' := up id.e (up id.f fun _ => b)) (fun c k => ?_) c k
  refine uH1_eq id.e (f' := up id.f fun _ => b) (fun c k => ?_) c k
  exact uB_eq id.f (f' := fun _ => b) (fun c k => rfl) c k
theorem look_lay (id : Id) (b : OB) (h : H6) : look id (layS id b h) = b := by
  simp only [look_eq, layS, gt_up]
theorem look_lay_ne {id j : Id} (b : OB) (h : H6) (hn : j ≠ id) : look j (layS id b h) = look j h := by
  obtain ⟨a1, b1, c1, g1, e1, f1⟩ := id
  obtain ⟨a2, b2, c2, g2, e2, f2⟩ := j
  simp only [look_eq, layS]
  by_cases ha : a2 = a1
  · subst ha
    rw [gt_up]
    by_cases hb : b2 = b1
    · subst hb
      rw [gt_up]
      by_cases hc : c2 = c1
      · subst hc
        rw [gt_up]
        by_cases hd : g2 = g1
        · subst hd
          rw [gt_up]
          by_cases he : e2 = e1
          · subst he
            rw [gt_up]
            by_cases hf : f2 = f1
            · subst hf
              exact absurd rfl hn
            · rw [gt_up_ne _ _ hf]
          · rw [gt_up_ne _ _ he]
        · rw [gt_up_ne _ _ hd]
      · rw [gt_up_ne _ _ hc]
    · rw [gt_up_ne _ _ hb]
  · rw [gt_up_ne _ _ ha]
theorem look_h6 (id : Id) : look id h6 = none := by
  simp only [look_eq, h6, h5, h4, h3, h2, h1, gt_all]

/- lists -/
theorem lnL_eq : ∀ l : List AV, lnL l = l.length
  | [] => rfl
  | _ :: l => congrArg Nat.succ (lnL_eq l)
theorem apL_eq : ∀ l m : List AV, apL l m = l ++ m
  | [], _ => rfl
  | v :: l, m => congrArg (v :: ·) (apL_eq l m)
theorem hdL_eq (l : List AV) : hdL l = l[0]?.getD und := by cases l <;> rfl
theorem tlL_eq (l : List AV) : tlL l = l.drop 1 := by cases l <;> rfl
theorem tl8_eq (l : List AV) : tl8 l = l.drop 8 := by simp only [tl8, tlL_eq, List.drop_drop]
theorem pk_get (l : List AV) (d : Dg) : gt d (pk l) = l[d.val]?.getD und := by
  cases d <;> simp only [gt, sl, pk, hdL_eq, tlL_eq, List.drop_drop, List.getElem?_drop] <;> rfl

/- digits of a cell's number -/
theorem dig_val : ∀ x, x < 8 → (dig x).val = x
  | 0, _ => rfl | 1, _ => rfl | 2, _ => rfl | 3, _ => rfl | 4, _ => rfl | 5, _ => rfl | 6, _ => rfl | 7, _ => rfl
  | _ + 8, h => by omega
theorem e0_val (i : Nat) : (e0 i).val = i % 8 := dig_val _ (Nat.mod_lt _ (by omega))
theorem e1_val (i : Nat) : (e1 i).val = i / 8 % 8 := dig_val _ (Nat.mod_lt _ (by omega))
theorem e2_val (i : Nat) : (e2 i).val = i / 64 % 8 := dig_val _ (Nat.mod_lt _ (by omega))
theorem e3_val (i : Nat) : (e3 i).val = i / 512 % 8 := dig_val _ (Nat.mod_lt _ (by omega))
theorem e4_val (i : Nat) : (e4 i).val = i / 4096 % 8 := dig_val _ (Nat.mod_lt _ (by omega))
theorem e5_val (i : Nat) : (e5 i).val = i / 32768 % 8 := dig_val _ (Nat.mod_lt _ (by omega))
theorem getT_t1 (c : L1) (i : Nat) : getT (.t1 c) i = gt (e0 i) c := by rw [← g0_eq]; rfl
theorem getT_t2 (c : L2) (i : Nat) : getT (.t2 c) i = gt (e0 i) (gt (e1 i) c) := by rw [← g0_eq, ← g1_eq]; rfl
theorem getT_t3 (c : L3) (i : Nat) : getT (.t3 c) i = gt (e0 i) (gt (e1 i) (gt (e2 i) c)) := by rw [← g0_eq, ← g1_eq, ← g2_eq]; rfl
theorem getT_t4 (c : L4) (i : Nat) : getT (.t4 c) i = gt (e0 i) (gt (e1 i) (gt (e2 i) (gt (e3 i) c))) := by rw [← g0_eq, ← g1_eq, ← g2_eq, ← g3_eq]; rfl
theorem sT1_t1 (c : L1) (i : Nat) (v : AV) : sT1 (.t1 c) i v = .t1 (up (e0 i) (fun _ => v) c) := by rw [← w0_eq]; rfl
theorem sT1_t2 (c : L2) (i : Nat) (v : AV) : sT1 (.t2 c) i v = .t2 (up (e1 i) (up (e0 i) fun _ => v) c) := by rw [← w0_eq, ← w1_eq]; rfl
theorem sT1_t3 (c : L3) (i : Nat) (v : AV) : sT1 (.t3 c) i v = .t3 (up (e2 i) (up (e1 i) (up (e0 i) fun _ => v)) c) := by rw [← w0_eq, ← w1_eq, ← w2_eq]; rfl
theorem sT1_t4 (c : L4) (i : Nat) (v : AV) : sT1 (.t4 c) i v = .t4 (up (e3 i) (up (e2 i) (up (e1 i) (up (e0 i) fun _ => v))) c) := by rw [← w0_eq, ← w1_eq, ← w2_eq, ← w3_eq]; rfl
theorem getT_t5 (c : L5) (i : Nat) : getT (.t5 c) i = gt (e0 i) (gt (e1 i) (gt (e2 i) (gt (e3 i) (gt (e4 i) c)))) := by rw [← g0_eq, ← g1_eq, ← g2_eq, ← g3_eq, ← g4_eq]; rfl
theorem getT_t6 (c : L6) (i : Nat) : getT (.t6 c) i = gt (e0 i) (gt (e1 i) (gt (e2 i) (gt (e3 i) (gt (e4 i) (gt (e5 i) c))))) := by rw [← g0_eq, ← g1_eq, ← g2_eq, ← g3_eq, ← g4_eq, ← g5_eq]; rfl
theorem sT1_t5 (c : L5) (i : Nat) (v : AV) : sT1 (.t5 c) i v = .t5 (up (e4 i) (up (e3 i) (up (e2 i) (up (e1 i) (up (e0 i) (fun _ => v))))) c) := by rw [← w0_eq, ← w1_eq, ← w2_eq, ← w3_eq, ← w4_eq]; rfl
theorem sT1_t6 (c : L6) (i : Nat) (v : AV) : sT1 (.t6 c) i v = .t6 (up (e5 i) (up (e4 i) (up (e3 i) (up (e2 i) (up (e1 i) (up (e0 i) (fun _ => v)))))) c) := by rw [← w0_eq, ← w1_eq, ← w2_eq, ← w3_eq, ← w4_eq, ← w5_eq]; rfl
theorem capT_set (t : Tr) (i : Nat) (v : AV) : capT (sT1 t i v) = capT t := by cases t <;> rfl
theorem getT_set {t : Tr} {i j : Nat} {v : AV} (hi : i < capT t) (hj : j < capT t) : getT (sT1 t i v) j = if j = i then v else getT t j := by
  have a0 := e0_val i; have a1 := e1_val i; have a2 := e2_val i; have a3 := e3_val i; have a4 := e4_val i; have a5 := e5_val i
  have b0 := e0_val j; have b1 := e1_val j; have b2 := e2_val j; have b3 := e3_val j; have b4 := e4_val j; have b5 := e5_val j
  cases t with
  | t0 c =>
    have hi' : i < 1 := hi
    have hj' : j < 1 := hj
    rw [if_pos (by omega)]; rfl
  | t1 c =>
    have hi' : i < 8 := hi
    have hj' : j < 8 := hj
    rw [sT1_t1, getT_t1, getT_t1]
    by_cases h0 : e0 j = e0 i
    · rw [h0] at b0
      rw [h0, gt_up, if_pos (by omega)]
    · rw [gt_up_ne _ _ h0, if_neg (fun e => h0 (by rw [e]))]
  | t2 c =>
    have hi' : i < 64 := hi
    have hj' : j < 64 := hj
    rw [sT1_t2, getT_t2, getT_t2]
    by_cases h1 : e1 j = e1 i
    · rw [h1] at b1
      rw [h1, gt_up]
      by_cases h0 : e0 j = e0 i
      · rw [h0] at b0
        rw [h0, gt_up, if_pos (by omega)]
      · rw [gt_up_ne _ _ h0, if_neg (fun e => h0 (by rw [e]))]
    · rw [gt_up_ne _ _ h1, if_neg (fun e => h1 (by rw [e]))]
  | t3 c =>
    have hi' : i < 512 := hi
    have hj' : j < 512 := hj
    rw [sT1_t3, getT_t3, getT_t3]
    by_cases h2 : e2 j = e2 i
    · rw [h2] at b2
      rw [h2, gt_up]
      by_cases h1 : e1 j = e1 i
      · rw [h1] at b1
        rw [h1, gt_up]
        by_cases h0 : e0 j = e0 i
        · rw [h0] at b0
          rw [h0, gt_up, if_pos (by omega)]
        · rw [gt_up_ne _ _ h0, if_neg (fun e => h0 (by rw [e]))]
      · rw [gt_up_ne _ _ h1, if_neg (fun e => h1 (by rw [e]))]
    · rw [gt_up_ne _ _ h2, if_neg (fun e => h2 (by rw [e]))]
  | t4 c =>
    have hi' : i < 4096 := hi
    have hj' : j < 4096 := hj
    rw [sT1_t4, getT_t4, getT_t4]
    by_cases h3 : e3 j = e3 i
    · rw [h3] at b3
      rw [h3, gt_up]
      by_cases h2 : e2 j = e2 i
      · rw [h2] at b2
        rw [h2, gt_up]
        by_cases h1 : e1 j = e1 i
        · rw [h1] at b1
          rw [h1, gt_up]
          by_cases h0 : e0 j = e0 i
          · rw [h0] at b0
            rw [h0, gt_up, if_pos (by omega)]
          · rw [gt_up_ne _ _ h0, if_neg (fun e => h0 (by rw [e]))]
        · rw [gt_up_ne _ _ h1, if_neg (fun e => h1 (by rw [e]))]
      · rw [gt_up_ne _ _ h2, if_neg (fun e => h2 (by rw [e]))]
    · rw [gt_up_ne _ _ h3, if_neg (fun e => h3 (by rw [e]))]
  | t5 c =>
    have hi' : i < 32768 := hi
    have hj' : j < 32768 := hj
    rw [sT1_t5, getT_t5, getT_t5]
    by_cases h4 : e4 j = e4 i
    · rw [h4] at b4
      rw [h4, gt_up]
      by_cases h3 : e3 j = e3 i
      · rw [h3] at b3
        rw [h3, gt_up]
        by_cases h2 : e2 j = e2 i
        · rw [h2] at b2
          rw [h2, gt_up]
          by_cases h1 : e1 j = e1 i
          · rw [h1] at b1
            rw [h1, gt_up]
            by_cases h0 : e0 j = e0 i
            · rw [h0] at b0
              rw [h0, gt_up, if_pos (by omega)]
            · rw [gt_up_ne _ _ h0, if_neg (fun e => h0 (by rw [e]))]
          · rw [gt_up_ne _ _ h1, if_neg (fun e => h1 (by rw [e]))]
        · rw [gt_up_ne _ _ h2, if_neg (fun e => h2 (by rw [e]))]
      · rw [gt_up_ne _ _ h3, if_neg (fun e => h3 (by rw [e]))]
    · rw [gt_up_ne _ _ h4, if_neg (fun e => h4 (by rw [e]))]
  | t6 c =>
    have hi' : i < 262144 := hi
    have hj' : j < 262144 := hj
    rw [sT1_t6, getT_t6, getT_t6]
    by_cases h5 : e5 j = e5 i
    · rw [h5] at b5
      rw [h5, gt_up]
      by_cases h4 : e4 j = e4 i
      · rw [h4] at b4
        rw [h4, gt_up]
        by_cases h3 : e3 j = e3 i
        · rw [h3] at b3
          rw [h3, gt_up]
          by_cases h2 : e2 j = e2 i
          · rw [h2] at b2
            rw [h2, gt_up]
            by_cases h1 : e1 j = e1 i
            · rw [h1] at b1
              rw [h1, gt_up]
              by_cases h0 : e0 j = e0 i
              · rw [h0] at b0
                rw [h0, gt_up, if_pos (by omega)]
              · rw [gt_up_ne _ _ h0, if_neg (fun e => h0 (by rw [e]))]
            · rw [gt_up_ne _ _ h1, if_neg (fun e => h1 (by rw [e]))]
          · rw [gt_up_ne _ _ h2, if_neg (fun e => h2 (by rw [e]))]
        · rw [gt_up_ne _ _ h3, if_neg (fun e => h3 (by rw [e]))]
      · rw [gt_up_ne _ _ h4, if_neg (fun e => h4 (by rw [e]))]
    · rw [gt_up_ne _ _ h5, if_neg (fun e => h5 (by rw [e]))]
theorem dz {d : Dg} (h : d.val = 0) : d = .d0 := Dg.val_inj (by rw [h]; rfl)
theorem capT_wrap (t : Tr) : capT t ≤ capT (wrapT t) := by
  cases t with
  | t0 c => show 1 ≤ 8; omega
  | t1 c => show 8 ≤ 64; omega
  | t2 c => show 64 ≤ 512; omega
  | t3 c => show 512 ≤ 4096; omega
  | t4 c => show 4096 ≤ 32768; omega
  | t5 c => show 32768 ≤ 262144; omega
  | t6 c => exact Nat.le_refl _
theorem getT_wrap {t : Tr} {i : Nat} (hi : i < capT t) : getT (wrapT t) i = getT t i := by
  have a0 := e0_val i; have a1 := e1_val i; have a2 := e2_val i; have a3 := e3_val i; have a4 := e4_val i; have a5 := e5_val i
  cases t with
  | t0 c =>
    have hi' : i < 1 := hi
    show getT (.t1 ⟨c, _, _, _, _, _, _, _⟩) i = c
    rw [getT_t1, dz (d := e0 i) (by omega)]; rfl
  | t1 c =>
    have hi' : i < 8 := hi
    show getT (.t2 ⟨c, _, _, _, _, _, _, _⟩) i = _
    rw [getT_t2, dz (d := e1 i) (by omega), getT_t1]; rfl
  | t2 c =>
    have hi' : i < 64 := hi
    show getT (.t3 ⟨c, _, _, _, _, _, _, _⟩) i = _
    rw [getT_t3, dz (d := e2 i) (by omega), getT_t2]; rfl
  | t3 c =>
    have hi' : i < 512 := hi
    show getT (.t4 ⟨c, _, _, _, _, _, _, _⟩) i = _
    rw [getT_t4, dz (d := e3 i) (by omega), getT_t3]; rfl
  | t4 c =>
    have hi' : i < 4096 := hi
    show getT (.t5 ⟨c, _, _, _, _, _, _, _⟩) i = _
    rw [getT_t5, dz (d := e4 i) (by omega), getT_t4]; rfl
  | t5 c =>
    have hi' : i < 32768 := hi
    show getT (.t6 ⟨c, _, _, _, _, _, _, _⟩) i = _
    rw [getT_t6, dz (d := e5 i) (by omega), getT_t5]; rfl
  | t6 c => rfl
theorem fitT_succ (f : Nat) (t : Tr) (n : Nat) : fitT (f + 1) t n = Bool.rec (motive := fun _ => Tr) (fitT f (wrapT t) n) t (Nat.ble n (capT t)) := by
  show Bool.rec (motive := fun _ => (Tr → Nat → Tr) → Tr → Nat → Tr) _ _ (Nat.ble n (capT t)) _ t n = _
  cases Nat.ble n (capT t) <;> rfl
theorem fitT_ok : ∀ (f : Nat) (t : Tr) (n : Nat), capT t ≤ capT (fitT f t n) ∧ ∀ i, i < capT t → getT (fitT f t n) i = getT t i
  | 0, t, n => ⟨Nat.le_refl _, fun _ _ => rfl⟩
  | f + 1, t, n => by
    rw [fitT_succ]
    cases Nat.ble n (capT t)
    · obtain ⟨h1, h2⟩ := fitT_ok f (wrapT t) n
      have h3 := capT_wrap t
      exact ⟨Nat.le_trans h3 h1, fun i hi => (h2 i (Nat.lt_of_lt_of_le hi h3)).trans (getT_wrap hi)⟩
    · exact ⟨Nat.le_refl _, fun _ _ => rfl⟩
theorem capT_put : ∀ (l : List AV) (t : Tr) (i : Nat), capT (pT1 l t i) = capT t
  | [], _, _ => rfl
  | v :: l, t, i => (capT_put l (sT1 t i v) (i + 1)).trans (capT_set t i v)
theorem getT_put : ∀ (l : List AV) (t : Tr) (i j : Nat), i + l.length ≤ capT t → j < capT t → getT (pT1 l t i) j = if i ≤ j ∧ j < i + l.length then l[j - i]?.getD und else getT t j
  | [], t, i, j, _, _ => by
    rw [if_neg (by simp only [List.length_nil]; omega)]; rfl
  | v :: l, t, i, j, hi, hj => by
    have hl : (v :: l).length = l.length + 1 := rfl
    show getT (pT1 l (sT1 t i v) (i + 1)) j = _
    rw [getT_put l _ _ _ (by rw [capT_set]; omega) (by rw [capT_set]; exact hj), getT_set (by omega) hj]
    by_cases h1 : j = i
    · subst h1
      rw [if_neg (by omega), if_pos rfl, if_pos (by omega), Nat.sub_self]
      rfl
    · by_cases h2 : i ≤ j ∧ j < i + (v :: l).length
      · rw [if_pos (by omega), if_pos h2]
        obtain ⟨k, rfl⟩ : ∃ k, j = i + 1 + k := ⟨j - (i + 1), by omega⟩
        rw [show i + 1 + k - (i + 1) = k by omega, show i + 1 + k - i = k + 1 by omega]
        rfl
      · rw [if_neg (by omega), if_neg h1, if_neg h2]
theorem getL_length : ∀ (m : Nat) (t : Tr) (i : Nat), (getL m t i).length = m
  | 0, _, _ => rfl
  | m + 1, t, i => congrArg Nat.succ (getL_length m t (i + 1))
theorem getL_get : ∀ (m : Nat) (t : Tr) (i j : Nat), (getL m t i)[j]? = if j < m then some (getT t (i + j)) else none
  | 0, t, i, j => by rw [if_neg (by omega)]; rfl
  | m + 1, t, i, 0 => by rw [if_pos (by omega)]; rfl
  | m + 1, t, i, j + 1 => by
    show (getL m t (i + 1))[j]? = _
    rw [getL_get m t (i + 1) j, show i + 1 + j = i + (j + 1) by omega]
    by_cases h : j < m
    · rw [if_pos h, if_pos (by omega)]
    · rw [if_neg h, if_neg (by omega)]
theorem getL_part {n : Nat} {t : Tr} {lo m : Nat} (h : lo + m ≤ n) : ((getL n t 0).drop lo).take m = getL m t lo := by
  apply List.ext_getElem?
  intro j
  rw [List.getElem?_take, List.getElem?_drop, getL_get, getL_get, Nat.zero_add]
  by_cases hj : j < m
  · rw [if_pos hj, if_pos hj, if_pos (by omega)]
  · rw [if_neg hj, if_neg hj]
theorem getL_put {n : Nat} {t : Tr} {lo : Nat} {l : List AV} (hn : n ≤ capT t) (h : lo + l.length ≤ n) : getL n (pT1 l t lo) 0 = (getL n t 0).take lo ++ (l ++ (getL n t 0).drop (lo + l.length)) := by
  apply List.ext_getElem?
  intro j
  have hlen : ((getL n t 0).take lo).length = lo := by rw [List.length_take, getL_length]; omega
  rw [getL_get, Nat.zero_add]
  by_cases h1 : j < lo
  · rw [List.getElem?_append_left (by omega), List.getElem?_take, if_pos h1, getL_get, Nat.zero_add, if_pos (by omega), if_pos (by omega), getT_put _ _ _ _ (by omega) (by omega), if_neg (by omega)]
  · rw [List.getElem?_append_right (by omega), hlen]
    by_cases h2 : j < lo + l.length
    · rw [List.getElem?_append_left (by omega), if_pos (by omega), getT_put _ _ _ _ (by omega) (by omega), if_pos (by omega)]
      rw [List.getElem?_eq_getElem (by omega)]
      rfl
    · rw [List.getElem?_append_right (by omega), List.getElem?_drop, getL_get, Nat.zero_add, show lo + l.length + (j - lo - l.length) = j by omega]
      by_cases h3 : j < n
      · rw [if_pos h3, if_pos h3, getT_put _ _ _ _ (by omega) (by omega), if_neg (by omega)]
      · rw [if_neg h3, if_neg h3]
theorem getL_of {n : Nat} {t : Tr} {l : List AV} (hl : l.length = n) (h : ∀ j, j < n → getT t j = l[j]?.getD und) : getL n t 0 = l := by
  apply List.ext_getElem?
  intro j
  rw [getL_get, Nat.zero_add]
  by_cases hj : j < n
  · rw [if_pos hj, h j hj, List.getElem?_eq_getElem (by omega)]
    rfl
  · rw [if_neg hj, List.getElem?_eq_none (by omega)]
theorem all1 (v : AV) (j : Nat) : getT (.t1 (N8.all v)) j = v := by rw [getT_t1, gt_all]
theorem all2 (v : AV) (j : Nat) : getT (.t2 (N8.all (N8.all v))) j = v := by rw [getT_t2, gt_all, gt_all]
theorem all3 (v : AV) (j : Nat) : getT (.t3 (N8.all (N8.all (N8.all v)))) j = v := by rw [getT_t3, gt_all, gt_all, gt_all]
theorem all4 (v : AV) (j : Nat) : getT (.t4 (N8.all (N8.all (N8.all (N8.all v))))) j = v := by rw [getT_t4, gt_all, gt_all, gt_all, gt_all]
theorem all5 (v : AV) (j : Nat) : getT (.t5 (N8.all (N8.all (N8.all (N8.all (N8.all v)))))) j = v := by rw [getT_t5, gt_all, gt_all, gt_all, gt_all, gt_all]
theorem all6 (v : AV) (j : Nat) : getT (.t6 (N8.all (N8.all (N8.all (N8.all (N8.all (N8.all v))))))) j = v := by rw [getT_t6, gt_all, gt_all, gt_all, gt_all, gt_all, gt_all]
theorem getT_all (n : Nat) (v : AV) (j : Nat) : getT (allT n v) j = v := by
  unfold allT
  cases h1 : Nat.ble n 1 <;> dsimp only
  · cases h2 : Nat.ble n 8 <;> dsimp only
    · cases h3 : Nat.ble n 64 <;> dsimp only
      · cases h4 : Nat.ble n 512 <;> dsimp only
        · cases h5 : Nat.ble n 4096 <;> dsimp only
          · cases h6 : Nat.ble n 32768 <;> dsimp only
            · exact all6 v j
            · exact all5 v j
          · exact all4 v j
        · exact all3 v j
      · exact all2 v j
    · exact all1 v j
  · rfl
theorem toT_ok (l : List AV) (h : l.length ≤ capT (clT l)) : getL l.length (clT l) 0 = l := by
  refine getL_of rfl fun j hj => ?_
  unfold clT at h ⊢
  rw [lnL_eq] at h ⊢
  cases h1 : Nat.ble l.length 1 <;> rw [h1] at h <;> dsimp only at h ⊢
  · rw [lnL_eq] at h ⊢
    cases h2 : Nat.ble l.length 8 <;> rw [h2] at h <;> dsimp only at h ⊢
    · rw [capT_put] at h
      rw [lnL_eq] at h ⊢
      rw [getT_put _ _ _ _ (by omega) (by omega), if_pos (by omega)]
      simp
    · have := Nat.le_of_ble_eq_true h2
      have hv := e0_val j
      rw [getT_t1, pk_get, hv, Nat.mod_eq_of_lt (by omega)]
  · have := Nat.le_of_ble_eq_true h1
    obtain rfl : j = 0 := by omega
    exact hdL_eq l

theorem fo1_eq (v : AV) (k : AV → Bool) : fo1 v k = k v := by cases v <;> rfl
theorem drL_eq : ∀ (n : Nat) (l : List AV), drL n l = l.drop n
  | 0, _ => rfl
  | n + 1, l => by
    show drL n (tlL l) = _
    rw [drL_eq n, tlL_eq, List.drop_drop, Nat.add_comm]
theorem div8 (i : Nat) : e1 i = e0 (i / 8) ∧ e2 i = e1 (i / 8) ∧ e3 i = e2 (i / 8) ∧ e4 i = e3 (i / 8) ∧ e5 i = e4 (i / 8) := by
  refine ⟨rfl, ?_, ?_, ?_, ?_⟩
  · show dig ((i / 64) % 8) = dig ((i / 8 / 8) % 8)
    rw [Nat.div_div_eq_div_mul]
  · show dig ((i / 512) % 8) = dig ((i / 8 / 64) % 8)
    rw [Nat.div_div_eq_div_mul]
  · show dig ((i / 4096) % 8) = dig ((i / 8 / 512) % 8)
    rw [Nat.div_div_eq_div_mul]
  · show dig ((i / 32768) % 8) = dig ((i / 8 / 4096) % 8)
    rw [Nat.div_div_eq_div_mul]
theorem n1_t2 (c : L2) (q : Nat) : n1 (.t2 c) q = gt (e0 q) c := by rw [← g1_eq]; rfl
theorem n1_t3 (c : L3) (q : Nat) : n1 (.t3 c) q = gt (e0 q) (gt (e1 q) c) := by rw [← g1_eq, ← g2_eq]; rfl
theorem n1_t4 (c : L4) (q : Nat) : n1 (.t4 c) q = gt (e0 q) (gt (e1 q) (gt (e2 q) c)) := by rw [← g1_eq, ← g2_eq, ← g3_eq]; rfl
theorem n1_t5 (c : L5) (q : Nat) : n1 (.t5 c) q = gt (e0 q) (gt (e1 q) (gt (e2 q) (gt (e3 q) c))) := by rw [← g1_eq, ← g2_eq, ← g3_eq, ← g4_eq]; rfl
theorem n1_t6 (c : L6) (q : Nat) : n1 (.t6 c) q = gt (e0 q) (gt (e1 q) (gt (e2 q) (gt (e3 q) (gt (e4 q) c)))) := by rw [← g1_eq, ← g2_eq, ← g3_eq, ← g4_eq, ← g5_eq]; rfl
theorem getT_node (t : Tr) (i : Nat) : getT t i = gt (e0 i) (n1 t (i / 8)) := by
  obtain ⟨h1, h2, h3, h4, h5⟩ := div8 i
  cases t with
  | t0 v => exact (gt_all _ v).symm
  | t1 c => rw [getT_t1]; rfl
  | t2 c => rw [getT_t2, n1_t2, h1]
  | t3 c => rw [getT_t3, n1_t3, h1, h2]
  | t4 c => rw [getT_t4, n1_t4, h1, h2, h3]
  | t5 c => rw [getT_t5, n1_t5, h1, h2, h3, h4]
  | t6 c => rw [getT_t6, n1_t6, h1, h2, h3, h4, h5]
def ndL (c : L1) : List AV := [c.c0, c.c1, c.c2, c.c3, c.c4, c.c5, c.c6, c.c7]
theorem nodeL_eq (c : L1) (k : List AV → Bool) : nodeL c k = k (ndL c) := by cases c; rfl
theorem ndL_get (c : L1) (d : Dg) : (ndL c)[d.val]? = some (gt d c) := by cases d <;> rfl
theorem node_at (t : Tr) (q j : Nat) (hj : j < 8) : (ndL (n1 t q))[j]? = some (getT t (8 * q + j)) := by
  have e : (8 * q + j) / 8 = q := by omega
  have hv := e0_val (8 * q + j)
  rw [getT_node, e, ← ndL_get, hv]
  congr 2
  omega
theorem feed_eq (nx : Nat → (List AV → Bool) → Bool) (h0 : ∀ k, nx 0 k = k []) : ∀ (l : List AV) (m : Nat) (k : List AV → Bool), feed l m k nx = nx (m - l.length) (fun r => k (l.take m ++ r))
  | [], m, k => by simp [feed]
  | v :: l, 0, k => by
    show k [] = _
    simp [h0]
  | v :: l, m + 1, k => by
    show fo1 v (fun v => feed l m (fun l => k (v :: l)) nx) = _
    rw [fo1_eq, feed_eq nx h0 l m]
    simp
theorem rdF_eq : ∀ (f : Nat) (t : Tr) (q m : Nat) (k : List AV → Bool), m ≤ f → rdF f t q m k = k (getL m t (8 * q))
  | 0, t, q, m, k, h => by
    obtain rfl : m = 0 := by omega
    rfl
  | f + 1, t, q, m, k, h => by
    show nodeL (n1 t q) (fun l => feed l m k fun m k => rdF f t (Nat.succ q) m k) = _
    rw [nodeL_eq, feed_eq _ (fun k => by rw [rdF_eq f t _ 0 k (by omega)]; rfl)]
    rw [rdF_eq f t _ _ _ (by have : (ndL (n1 t q)).length = 8 := rfl; omega)]
    congr 1
    apply List.ext_getElem?
    intro j
    have h8 : (ndL (n1 t q)).length = 8 := rfl
    rw [getL_get]
    by_cases hj : j < 8
    · by_cases hm : j < m
      · rw [List.getElem?_append_left (by rw [List.length_take]; omega), List.getElem?_take, if_pos hm, node_at t q j hj, if_pos hm]
      · rw [if_neg hm, List.getElem?_eq_none]
        rw [List.length_append, List.length_take, getL_length]
        omega
    · by_cases hm : j < m
      · have hlen : ((ndL (n1 t q)).take m).length = 8 := by rw [List.length_take, h8]; omega
        rw [List.getElem?_append_right (by omega), hlen, getL_get, h8, if_pos (by omega), if_pos hm]
        congr 2
        show 8 * (q + 1) + (j - 8) = 8 * q + j
        omega
      · rw [if_neg hm, List.getElem?_eq_none]
        rw [List.length_append, List.length_take, getL_length]
        omega
theorem getK_eq (m : Nat) (t : Tr) (i : Nat) (k : List AV → Bool) : getK m t i k = k (getL m t i) := by
  show nodeL (n1 t (Nat.div i 8)) (fun l => feed (drL (Nat.mod i 8) l) m k fun m k => rdF m t (Nat.succ (Nat.div i 8)) m k) = _
  rw [nodeL_eq, feed_eq _ (fun k => rfl), rdF_eq _ t _ _ _ (Nat.le_refl _), drL_eq]
  congr 1
  apply List.ext_getElem?
  intro j
  have hi : i = 8 * (i / 8) + i % 8 := by omega
  have hr : i % 8 < 8 := Nat.mod_lt _ (by omega)
  have hq : Nat.div i 8 = i / 8 := rfl
  have hmod : Nat.mod i 8 = i % 8 := rfl
  rw [hq, hmod]
  have h8 : ((ndL (n1 t (i / 8))).drop (i % 8)).length = 8 - i % 8 := by rw [List.length_drop]; rfl
  rw [getL_get]
  by_cases hj : j < 8 - i % 8
  · by_cases hm : j < m
    · rw [List.getElem?_append_left (by rw [List.length_take]; omega), List.getElem?_take, if_pos hm, List.getElem?_drop, node_at t _ _ (by omega), if_pos hm]
      congr 2
      omega
    · rw [if_neg hm, List.getElem?_eq_none]
      rw [List.length_append, List.length_take, getL_length]
      omega
  · by_cases hm : j < m
    · have hlen : (((ndL (n1 t (i / 8))).drop (i % 8)).take m).length = 8 - i % 8 := by rw [List.length_take, h8]; omega
      rw [List.getElem?_append_right (by omega), hlen, getL_get, h8, if_pos (by omega), if_pos hm]
      congr 2
      show 8 * (i / 8 + 1) + (j - (8 - i % 8)) = i + j
      omega
    · rw [if_neg hm, List.getElem?_eq_none]
      rw [List.length_append, List.length_take, getL_length]
      omega
theorem setT_eq (t : Tr) (i : Nat) (v : AV) (k : Tr → Bool) : setT t i v k = k (sT1 t i v) := by
  cases t with
  | t0 c => rfl
  | t1 c =>
    rw [sT1_t1]
    exact u0_eq (e0 i) (f' := fun _ => v) (fun c k => rfl) c fun c => k (.t1 c)
  | t2 c =>
    rw [sT1_t2]
    refine u1_eq (e1 i) (f' := up (e0 i) fun _ => v) (fun c k => ?_) c fun c => k (.t2 c)
    exact u0_eq (e0 i) (f' := fun _ => v) (fun c k => rfl) c k
  | t3 c =>
    rw [sT1_t3]
    refine u2_eq (e2 i) (f' := up (e1 i) (up (e0 i) fun _ => v)) (fun c k => ?_) c fun c => k (.t3 c)
    refine u1_eq (e1 i) (f' := up (e0 i) fun _ => v) (fun c k => ?_) c k
    exact u0_eq (e0 i) (f' := fun _ => v) (fun c k => rfl) c k
  | t4 c =>
    rw [sT1_t4]
    refine u3_eq (e3 i) (f' := up (e2 i) (up (e1 i) (up (e0 i) fun _ => v))) (fun c k => ?_) c fun c => k (.t4 c)
    refine u2_eq (e2 i) (f' := up (e1 i) (up (e0 i) fun _ => v)) (fun c k => ?_) c k
    refine u1_eq (e1 i) (f' := up (e0 i) fun _ => v) (fun c k => ?_) c k
    exact u0_eq (e0 i) (f' := fun _ => v) (fun c k => rfl) c k
  | t5 c =>
    rw [sT1_t5]
    refine u4_eq (e4 i) (f' := up (e3 i) (up (e2 i) (up (e1 i) (up (e0 i) (fun _ => v))))) (fun c k => ?_) c fun c => k (.t5 c)
    refine u3_eq (e3 i) (f' := up (e2 i) (up (e1 i) (up (e0 i) (fun _ => v)))) (fun c k => ?_) c k
    refine u2_eq (e2 i) (f' := up (e1 i) (up (e0 i) (fun _ => v))) (fun c k => ?_) c k
    refine u1_eq (e1 i) (f' := up (e0 i) (fun _ => v)) (fun c k => ?_) c k
    exact u0_eq (e0 i) (f' := fun _ => v) (fun c k => rfl) c k
  | t6 c =>
    rw [sT1_t6]
    refine u5_eq (e5 i) (f' := up (e4 i) (up (e3 i) (up (e2 i) (up (e1 i) (up (e0 i) (fun _ => v)))))) (fun c k => ?_) c fun c => k (.t6 c)
    refine u4_eq (e4 i) (f' := up (e3 i) (up (e2 i) (up (e1 i) (up (e0 i) (fun _ => v))))) (fun c k => ?_) c k
    refine u3_eq (e3 i) (f' := up (e2 i) (up (e1 i) (up (e0 i) (fun _ => v)))) (fun c k => ?_) c k
    refine u2_eq (e2 i) (f' := up (e1 i) (up (e0 i) (fun _ => v))) (fun c k => ?_) c k
    refine u1_eq (e1 i) (f' := up (e0 i) (fun _ => v)) (fun c k => ?_) c k
    exact u0_eq (e0 i) (f' := fun _ => v) (fun c k => rfl) c k
theorem putW_eq : ∀ (l : List AV) (t : Tr) (i : Nat) (k : Tr → Bool), putW l t i k = k (pT1 l t i)
  | [], _, _, _ => rfl
  | v :: l, t, i, k => by
    show setT t i v (fun t => putW l t (i + 1) k) = _
    rw [setT_eq, putW_eq l]
    rfl
noncomputable def upN (t : Tr) (q : Nat) (g : L1 → L1) : Tr := match t with
  | .t0 v => .t0 (g (N8.all v)).c0
  | .t1 c => .t1 (g c)
  | .t2 c => .t2 (up (e0 q) g c)
  | .t3 c => .t3 (up (e1 q) (up (e0 q) g) c)
  | .t4 c => .t4 (up (e2 q) (up (e1 q) (up (e0 q) g)) c)
  | .t5 c => .t5 (up (e3 q) (up (e2 q) (up (e1 q) (up (e0 q) g))) c)
  | .t6 c => .t6 (up (e4 q) (up (e3 q) (up (e2 q) (up (e1 q) (up (e0 q) g)))) c)
theorem up_up {α : Type} (d : Dg) (f g : α → α) (t : N8 α) : up d f (up d g t) = up d (fun x => f (g x)) t := by cases d <;> rfl
theorem up_fun {α : Type} (d : Dg) {f g : α → α} (t : N8 α) (h : f (gt d t) = g (gt d t)) : up d f t = up d g t := by
  cases d <;> cases t <;> simp only [up] <;> (first | (simp only [gt, sl] at h; rw [h]))
theorem upN_upN (t : Tr) (h0 : 2 ≤ capT t) (q : Nat) (f g : L1 → L1) : upN (upN t q g) q f = upN t q (fun c => f (g c)) := by
  cases t with
  | t0 v => exact absurd h0 (by show ¬ 2 ≤ 1; omega)
  | t1 c => rfl
  | t2 c => simp only [upN, up_up]
  | t3 c => simp only [upN, up_up]
  | t4 c => simp only [upN, up_up]
  | t5 c => simp only [upN, up_up]
  | t6 c => simp only [upN, up_up]
theorem upN_const (t : Tr) (h0 : 2 ≤ capT t) (q : Nat) (g : L1 → L1) : upN t q g = upN t q (fun _ => g (n1 t q)) := by
  cases t with
  | t0 v => exact absurd h0 (by show ¬ 2 ≤ 1; omega)
  | t1 c => rfl
  | t2 c =>
    rw [n1_t2]
    simp only [upN]
    exact congrArg Tr.t2 (up_fun _ c rfl)
  | t3 c =>
    rw [n1_t3]
    simp only [upN]
    exact congrArg Tr.t3 (up_fun _ c (up_fun _ _ rfl))
  | t4 c =>
    rw [n1_t4]
    simp only [upN]
    exact congrArg Tr.t4 (up_fun _ c (up_fun _ _ (up_fun _ _ rfl)))
  | t5 c =>
    rw [n1_t5]
    simp only [upN]
    exact congrArg Tr.t5 (up_fun _ c (up_fun _ _ (up_fun _ _ (up_fun _ _ rfl))))
  | t6 c =>
    rw [n1_t6]
    simp only [upN]
    exact congrArg Tr.t6 (up_fun _ c (up_fun _ _ (up_fun _ _ (up_fun _ _ (up_fun _ _ rfl)))))
theorem sT1_node (t : Tr) (h0 : 2 ≤ capT t) (i : Nat) (v : AV) : sT1 t i v = upN t (i / 8) (up (e0 i) fun _ => v) := by
  obtain ⟨h1, h2, h3, h4, h5⟩ := div8 i
  cases t with
  | t0 v => exact absurd h0 (by show ¬ 2 ≤ 1; omega)
  | t1 c => rw [sT1_t1]; rfl
  | t2 c => rw [sT1_t2, h1]; rfl
  | t3 c => rw [sT1_t3, h1, h2]; rfl
  | t4 c => rw [sT1_t4, h1, h2, h3]; rfl
  | t5 c => rw [sT1_t5, h1, h2, h3, h4]; rfl
  | t6 c => rw [sT1_t6, h1, h2, h3, h4, h5]; rfl
theorem sN_eq (t : Tr) (h0 : 2 ≤ capT t) (q : Nat) (c : L1) (k : Tr → Bool) : sN t q c k = k (upN t q fun _ => c) := by
  cases t with
  | t0 v => exact absurd h0 (by show ¬ 2 ≤ 1; omega)
  | t1 _ => rfl
  | t2 t => exact u1_eq (e0 q) (f' := fun _ => c) (fun _ k => rfl) t fun t => k (.t2 t)
  | t3 t =>
    refine u2_eq (e1 q) (f' := up (e0 q) fun _ => c) (fun x k => ?_) t fun t => k (.t3 t)
    exact u1_eq (e0 q) (f' := fun _ => c) (fun _ k => rfl) x k
  | t4 t =>
    refine u3_eq (e2 q) (f' := up (e1 q) (up (e0 q) fun _ => c)) (fun x k => ?_) t fun t => k (.t4 t)
    refine u2_eq (e1 q) (f' := up (e0 q) fun _ => c) (fun x k => ?_) x k
    exact u1_eq (e0 q) (f' := fun _ => c) (fun _ k => rfl) x k
  | t5 t =>
    refine u4_eq (e3 q) (f' := up (e2 q) (up (e1 q) (up (e0 q) fun _ => c))) (fun x k => ?_) t fun t => k (.t5 t)
    refine u3_eq (e2 q) (f' := up (e1 q) (up (e0 q) fun _ => c)) (fun x k => ?_) x k
    refine u2_eq (e1 q) (f' := up (e0 q) fun _ => c) (fun x k => ?_) x k
    exact u1_eq (e0 q) (f' := fun _ => c) (fun _ k => rfl) x k
  | t6 t =>
    refine u5_eq (e4 q) (f' := up (e3 q) (up (e2 q) (up (e1 q) (up (e0 q) fun _ => c)))) (fun x k => ?_) t fun t => k (.t6 t)
    refine u4_eq (e3 q) (f' := up (e2 q) (up (e1 q) (up (e0 q) fun _ => c))) (fun x k => ?_) x k
    refine u3_eq (e2 q) (f' := up (e1 q) (up (e0 q) fun _ => c)) (fun x k => ?_) x k
    refine u2_eq (e1 q) (f' := up (e0 q) fun _ => c) (fun x k => ?_) x k
    exact u1_eq (e0 q) (f' := fun _ => c) (fun _ k => rfl) x k
noncomputable def setN (c : L1) (r : Nat) (l : List AV) : L1 := match l with
  | [] => c
  | v :: l => setN (up (dig r) (fun _ => v) c) (r + 1) l
theorem mixN_eq (c : L1) (r : Nat) (l : List AV) (hr : r < 8) (k : L1 → List AV → Bool) : mixN c r l k = k (setN c r (l.take (8 - r))) (l.drop (8 - r)) := by
  obtain ⟨c0, c1, c2, c3, c4, c5, c6, c7⟩ := c
  match r, hr with
  | 0, _ =>
    match l with
    | [] => rfl
    | [v0] => rfl
    | [v0, v1] => rfl
    | [v0, v1, v2] => rfl
    | [v0, v1, v2, v3] => rfl
    | [v0, v1, v2, v3, v4] => rfl
    | [v0, v1, v2, v3, v4, v5] => rfl
    | [v0, v1, v2, v3, v4, v5, v6] => rfl
    | v0 :: v1 :: v2 :: v3 :: v4 :: v5 :: v6 :: v7 :: l => rfl
  | 1, _ =>
    match l with
    | [] => rfl
    | [v0] => rfl
    | [v0, v1] => rfl
    | [v0, v1, v2] => rfl
    | [v0, v1, v2, v3] => rfl
    | [v0, v1, v2, v3, v4] => rfl
    | [v0, v1, v2, v3, v4, v5] => rfl
    | v0 :: v1 :: v2 :: v3 :: v4 :: v5 :: v6 :: l => rfl
  | 2, _ =>
    match l with
    | [] => rfl
    | [v0] => rfl
    | [v0, v1] => rfl
    | [v0, v1, v2] => rfl
    | [v0, v1, v2, v3] => rfl
    | [v0, v1, v2, v3, v4] => rfl
    | v0 :: v1 :: v2 :: v3 :: v4 :: v5 :: l => rfl
  | 3, _ =>
    match l with
    | [] => rfl
    | [v0] => rfl
    | [v0, v1] => rfl
    | [v0, v1, v2] => rfl
    | [v0, v1, v2, v3] => rfl
    | v0 :: v1 :: v2 :: v3 :: v4 :: l => rfl
  | 4, _ =>
    match l with
    | [] => rfl
    | [v0] => rfl
    | [v0, v1] => rfl
    | [v0, v1, v2] => rfl
    | v0 :: v1 :: v2 :: v3 :: l => rfl
  | 5, _ =>
    match l with
    | [] => rfl
    | [v0] => rfl
    | [v0, v1] => rfl
    | v0 :: v1 :: v2 :: l => rfl
  | 6, _ =>
    match l with
    | [] => rfl
    | [v0] => rfl
    | v0 :: v1 :: l => rfl
  | 7, _ =>
    match l with
    | [] => rfl
    | v0 :: l => rfl
theorem pT1_append : ∀ (a b : List AV) (t : Tr) (i : Nat), pT1 (a ++ b) t i = pT1 b (pT1 a t i) (i + a.length)
  | [], b, t, i => rfl
  | v :: a, b, t, i => by
    show pT1 (a ++ b) (sT1 t i v) (i + 1) = pT1 b (pT1 a (sT1 t i v) (i + 1)) (i + (a.length + 1))
    rw [pT1_append a b, show i + 1 + a.length = i + (a.length + 1) by omega]
theorem capT_upN (t : Tr) (q : Nat) (g : L1 → L1) : capT (upN t q g) = capT t := by cases t <;> rfl
theorem pT1_node : ∀ (l : List AV) (t : Tr) (h0 : 2 ≤ capT t) (q r : Nat), r + l.length ≤ 8 → pT1 l t (8 * q + r) = upN t q fun c => setN c r l
  | [], t, h0, q, r, h => by
    show t = upN t q fun c => c
    have hid : ∀ {α : Type} (d : Dg), up d (fun x : α => x) = fun c => c := fun d => funext fun c => by cases d <;> rfl
    cases t with
    | t0 v => exact absurd h0 (by show ¬ 2 ≤ 1; omega)
    | t1 c => rfl
    | t2 c => show Tr.t2 c = Tr.t2 (up _ (fun x => x) c); rw [hid]
    | t3 c => show Tr.t3 c = Tr.t3 (up _ (up _ (fun x => x)) c); rw [hid, hid]
    | t4 c => show Tr.t4 c = Tr.t4 (up _ (up _ (up _ (fun x => x))) c); rw [hid, hid, hid]
    | t5 c => show Tr.t5 c = Tr.t5 (up _ (up _ (up _ (up _ (fun x => x)))) c); rw [hid, hid, hid, hid]
    | t6 c => show Tr.t6 c = Tr.t6 (up _ (up _ (up _ (up _ (up _ (fun x => x))))) c); rw [hid, hid, hid, hid, hid]
  | v :: l, t, h0, q, r, h => by
    have hl : (v :: l).length = l.length + 1 := rfl
    show pT1 l (sT1 t (8 * q + r) v) (8 * q + r + 1) = _
    rw [sT1_node t h0, show (8 * q + r) / 8 = q by omega, show 8 * q + r + 1 = 8 * q + (r + 1) by omega, pT1_node l _ (by rw [capT_upN]; exact h0) q (r + 1) (by omega), upN_upN t h0]
    have e : e0 (8 * q + r) = dig r := by
      show dig ((8 * q + r) % 8) = dig r
      rw [show (8 * q + r) % 8 = r by omega]
    rw [e]
    rfl
theorem wrF_eq : ∀ (f : Nat) (l : List AV) (t : Tr) (i : Nat) (k : Tr → Bool), 2 ≤ capT t → l.length ≤ f → wrF f l t i k = k (pT1 l t i)
  | 0, l, t, i, k, h0, h => by
    obtain rfl : l = [] := List.eq_nil_of_length_eq_zero (by omega)
    rfl
  | f + 1, [], t, i, k, h0, h => rfl
  | f + 1, v :: l, t, i, k, h0, h => by
    have hlen : (v :: l).length = l.length + 1 := rfl
    show mixN (n1 t (Nat.div i 8)) (Nat.mod i 8) (v :: l) (fun c l => sN t (Nat.div i 8) c fun t => wrF f l t (Nat.mul 8 (Nat.succ (Nat.div i 8))) k) = _
    have hq : Nat.div i 8 = i / 8 := rfl
    have hmod : Nat.mod i 8 = i % 8 := rfl
    have hr : i % 8 < 8 := Nat.mod_lt _ (by omega)
    rw [hq, hmod, mixN_eq _ _ _ hr, sN_eq t h0, wrF_eq f _ _ _ _ (by rw [capT_upN]; exact h0) (by rw [List.length_drop]; omega)]
    congr 1
    have hpart : pT1 ((v :: l).take (8 - i % 8)) t i = upN t (i / 8) fun _ => setN (n1 t (i / 8)) (i % 8) ((v :: l).take (8 - i % 8)) := by
      have h1 := pT1_node ((v :: l).take (8 - i % 8)) t h0 (i / 8) (i % 8) (by rw [List.length_take]; omega)
      rw [show 8 * (i / 8) + i % 8 = i by omega] at h1
      rw [h1]
      exact upN_const t h0 (i / 8) _
    have hsplit := pT1_append ((v :: l).take (8 - i % 8)) ((v :: l).drop (8 - i % 8)) t i
    rw [List.take_append_drop] at hsplit
    rw [hsplit, hpart]
    by_cases hbig : 8 - i % 8 ≤ (v :: l).length
    · have e : i + ((v :: l).take (8 - i % 8)).length = Nat.mul 8 (Nat.succ (i / 8)) := by
        rw [List.length_take, Nat.min_eq_left hbig]
        show i + (8 - i % 8) = 8 * (i / 8 + 1)
        omega
      rw [e]
    · have e : (v :: l).drop (8 - i % 8) = [] := List.drop_eq_nil_of_le (by omega)
      rw [e]
      rfl
theorem putL_eq (l : List AV) (t : Tr) (i : Nat) (k : Tr → Bool) : putL l t i k = k (pT1 l t i) := by
  unfold putL
  cases hb : (Nat.ble 2 (lnL l) && Nat.ble (Nat.add i (lnL l)) (capT t)) with
  | false => exact putW_eq l t i k
  | true =>
    rw [Bool.and_eq_true] at hb
    have h2 := Nat.le_of_ble_eq_true hb.1
    have h3 := Nat.le_of_ble_eq_true hb.2
    have h4 : i + lnL l ≤ capT t := h3
    exact wrF_eq _ l t i k (by omega) (by rw [lnL_eq]; exact Nat.le_refl _)
theorem toT_eq (l : List AV) (k : Tr → Bool) : toT l k = k (clT l) := by
  unfold toT clT
  cases Nat.ble (lnL l) 1 <;> dsimp only
  · cases Nat.ble (lnL l) 8 <;> dsimp only
    exact putL_eq _ _ _ _
noncomputable def Bk.pl (b : Bk) : Blk := ⟨b.z, getL b.n b.t 0⟩
structure RH (t : H6) (h : Heap) : Prop where
  at_ : ∀ id, (look id t).map Bk.pl = h id
  cap : ∀ id b, look id t = some b → b.n ≤ capT b.t
theorem RH.some {t : H6} {h : Heap} (hr : RH t h) {id : Id} {b : Bk} (hl : look id t = some b) : h id = some b.pl := by
  rw [← hr.at_, hl]; rfl
theorem RH.put {t : H6} {h : Heap} (hr : RH t h) (id : Id) (b : OB) (hb : ∀ k, b = Option.some k → k.n ≤ capT k.t) : RH (layS id b t) (Heap.put h id (b.map Bk.pl)) := by
  refine ⟨fun j => ?_, fun j k hk => ?_⟩
  · unfold Heap.put
    by_cases hj : j = id
    · subst hj
      rw [look_lay, if_pos rfl]
    · rw [look_lay_ne _ _ hj, if_neg (fun e => hj (Id.num_inj e)), hr.at_]
  · by_cases hj : j = id
    · subst hj
      rw [look_lay] at hk
      exact hb k hk
    · rw [look_lay_ne _ _ hj] at hk
      exact hr.cap j k hk
structure RS (t : St) (s : S) : Prop where
  tr : t.tr = s.tr
  h : RH t.h s.h
  n : t.n = s.n
  r : t.r = s.r
  w : t.w = s.w
def Ref {α β : Type} (R : α → β → Prop) (q : M α) (m : Ev.M β) : Prop := ∀ t s k, RS t s → q t k = true → ∃ a b t' s', m s = some (b, s') ∧ R a b ∧ RS t' s' ∧ k a t' = true

section
variable {α β γ δ : Type} {R : α → β → Prop} {Q : γ → δ → Prop}
theorem Ref.pure {a : α} {b : β} (h : R a b) : Ref R (M.pure a) (Ev.M.pure b) := fun t s k hs hk => ⟨a, b, t, s, rfl, h, hs, hk⟩
theorem Ref.no {m : Ev.M β} : Ref R (M.no : M α) m := fun t s k hs hk => by simp [M.no] at hk
theorem Ref.bind {q : M α} {m : Ev.M β} {f : α → M γ} {g : β → Ev.M δ} (h : Ref R q m) (hf : ∀ a b, R a b → Ref Q (f a) (g b)) : Ref Q (M.bind q f) (Ev.M.bind m g) := by
  intro t s k hs hk
  obtain ⟨a, b, t1, s1, h1, h2, h3, h4⟩ := h t s _ hs hk
  obtain ⟨c, d, t2, s2, g1, g2, g3, g4⟩ := hf a b h2 t1 s1 k h3 h4
  exact ⟨c, d, t2, s2, by simp only [Ev.M.bind, h1, g1], g2, g3, g4⟩
theorem Ref.ofO {o : Option α} {f : α → M γ} {g : α → Ev.M δ} (hf : ∀ a, o = some a → Ref Q (f a) (g a)) : Ref Q (M.ofO o f) (Ev.M.ofO o g) := by
  cases o with
  | none => exact Ref.no
  | some a => exact hf a rfl
theorem Ref.ifB {b : Bool} {q : M γ} {m : Ev.M δ} (h : Ref Q q m) : Ref Q (M.ifB b q) (Ev.M.ifB b m) := by
  cases b with
  | false => exact Ref.no
  | true => exact h
end

def logR (s : St) (id : Id) (lo m : Nat) : St := ⟨s.tr, s.h, s.n, match s.tr with | true => ⟨id, lo, m⟩ :: s.r | false => s.r, s.w⟩
def logW (s : St) (id : Id) (lo m : Nat) : St := ⟨s.tr, s.h, s.n, s.r, match s.tr with | true => ⟨id, lo, m⟩ :: s.w | false => s.w⟩
theorem lgR_eq (s : St) (id : Id) (lo m : Nat) (k : St → Bool) : lgR s id lo m k = k (logR s id lo m) := by
  obtain ⟨tr, h, n, r, w⟩ := s
  cases tr <;> rfl
theorem lgW_eq (s : St) (id : Id) (lo m : Nat) (k : St → Bool) : lgW s id lo m k = k (logW s id lo m) := by
  obtain ⟨tr, h, n, r, w⟩ := s
  cases tr <;> rfl
theorem RS.logR {t : St} {s : S} (h : RS t s) (id : Id) (lo m : Nat) : RS (logR t id lo m) (Ev.M.logR s id lo m) := by
  obtain ⟨tr, hh, n, r, w⟩ := t
  obtain ⟨tr', hh', n', r', w'⟩ := s
  obtain ⟨h1, h2, h3, h4, h5⟩ := h
  simp only at h1 h3 h4 h5
  subst h1 h3 h4 h5
  cases tr
  · exact ⟨rfl, h2, rfl, rfl, rfl⟩
  · exact ⟨rfl, h2, rfl, rfl, rfl⟩
theorem RS.logW {t : St} {s : S} (h : RS t s) (id : Id) (lo m : Nat) : RS (logW t id lo m) (Ev.M.logW s id lo m) := by
  obtain ⟨tr, hh, n, r, w⟩ := t
  obtain ⟨tr', hh', n', r', w'⟩ := s
  obtain ⟨h1, h2, h3, h4, h5⟩ := h
  simp only at h1 h3 h4 h5
  subst h1 h3 h4 h5
  cases tr
  · exact ⟨rfl, h2, rfl, rfl, rfl⟩
  · exact ⟨rfl, h2, rfl, rfl, rfl⟩
theorem RS.heap {t : St} {s : S} (h : RS t s) {n n' : Id} {t' : H6} {h' : Heap} (hn : n = n') (hr : RH t' h') : RS ⟨t.tr, t', n, t.r, t.w⟩ ⟨s.tr, h', n', s.r, s.w⟩ := ⟨h.tr, hr, hn, h.r, h.w⟩
theorem hasB_some {id : Id} {top : Nat} {s : St} {k : Bk → Bool} (h : hasB id top s k = true) : ∃ b, look id s.h = some b ∧ top ≤ b.n ∧ k b = true := by
  obtain ⟨tr, hh, n, r, w⟩ := s
  change hasH hh id top k = true at h
  unfold hasH at h
  show ∃ b, look id hh = some b ∧ _
  cases hl : look id hh with
  | none => rw [hl] at h; cases h
  | some b =>
    rw [hl] at h
    dsimp only at h
    cases hb : Nat.ble top b.n with
    | false => rw [hb] at h; cases h
    | true => rw [hb] at h; exact ⟨b, rfl, Nat.le_of_ble_eq_true hb, h⟩
theorem turn_eq (b : Bk) {f : Tr → (Tr → Bool) → Bool} {f' : Tr → Tr} (h : ∀ t k, f t k = k (f' t)) (k : Bk → Bool) : turn b f k = k ⟨b.z, b.n, f' b.t⟩ := by
  obtain ⟨z, n, t⟩ := b
  exact h t _
theorem incA_some {a : Dg} {k : Id → Bool} (h : incA a k = true) : ∃ j, Id.inc ⟨a, .d7, .d7, .d7, .d7, .d7⟩ = some j ∧ k j = true := by
  cases a <;> first | exact ⟨_, rfl, h⟩ | cases h
theorem incB_some {a b : Dg} {k : Id → Bool} (h : incB a b k = true) : ∃ j, Id.inc ⟨a, b, .d7, .d7, .d7, .d7⟩ = some j ∧ k j = true := by
  cases b <;> first | exact ⟨_, rfl, h⟩ | exact incA_some h
theorem incC_some {a b c : Dg} {k : Id → Bool} (h : incC a b c k = true) : ∃ j, Id.inc ⟨a, b, c, .d7, .d7, .d7⟩ = some j ∧ k j = true := by
  cases c <;> first | exact ⟨_, rfl, h⟩ | exact incB_some h
theorem incD_some {a b c d : Dg} {k : Id → Bool} (h : incD a b c d k = true) : ∃ j, Id.inc ⟨a, b, c, d, .d7, .d7⟩ = some j ∧ k j = true := by
  cases d <;> first | exact ⟨_, rfl, h⟩ | exact incC_some h
theorem incE_some {a b c d e : Dg} {k : Id → Bool} (h : incE a b c d e k = true) : ∃ j, Id.inc ⟨a, b, c, d, e, .d7⟩ = some j ∧ k j = true := by
  cases e <;> first | exact ⟨_, rfl, h⟩ | exact incD_some h
theorem incQ_some {i : Id} {k : Id → Bool} (h : incQ i k = true) : ∃ j, i.inc = some j ∧ k j = true := by
  obtain ⟨a, b, c, d, e, f⟩ := i
  have h' : incF a b c d e f k = true := h
  cases f <;> first | exact ⟨_, rfl, h'⟩ | exact incE_some h'

theorem rd_eval {s : S} {id : Id} {k : Blk} (hk : s.h id = some k) {lo m : Nat} (hm : Nat.beq m 0 = false) (hle : lo + m ≤ k.c.length) : Ev.M.rd id lo m s = some ((k.c.drop lo).take m, Ev.M.logR s id lo m) := by
  unfold Ev.M.rd
  rw [hm]
  dsimp only
  rw [hk]
  dsimp only
  rw [Nat.ble_eq_true_of_le hle]
theorem Ref.rd (id : Id) (lo m : Nat) : Ref Eq (Kq.rd id lo m) (Ev.M.rd id lo m) := by
  unfold Kq.rd
  cases hm : Nat.beq m 0 with
  | true =>
    unfold Ev.M.rd
    rw [hm]
    exact Ref.pure rfl
  | false =>
    intro t s k hs hk
    obtain ⟨b, hl, hle, hk⟩ := hasB_some hk
    rw [lgR_eq, getK_eq] at hk
    have hle' : lo + m ≤ b.n := hle
    refine ⟨_, _, _, _, rd_eval (hs.h.some hl) hm (by simp only [Bk.pl, getL_length]; exact hle'), ?_, hs.logR id lo m, hk⟩
    exact (getL_part hle').symm
theorem Ref.rd1 (id : Id) (off : Nat) : Ref Eq (Kq.rd1 id off) (Ev.ldF (.p id off)) := by
  intro t s k hs hk
  obtain ⟨b, hl, hle, hk⟩ := hasB_some hk
  rw [lgR_eq, fo1_eq] at hk
  have hle' : off + 1 ≤ b.n := hle
  refine ⟨_, _, _, _, ?_, rfl, hs.logR id off 1, hk⟩
  show Ev.M.bind (Ev.M.rd id off 1) _ s = _
  unfold Ev.M.bind
  rw [rd_eval (hs.h.some hl) rfl (by simp only [Bk.pl, getL_length]; exact hle')]
  simp only [Bk.pl]
  rw [getL_part hle']
  rfl
theorem Ref.wrN (id : Id) (lo : Nat) (l : List AV) (hl0 : l.isEmpty = false) : Ref Eq (Kq.wrN id lo l.length l) (Ev.M.wr id lo l) := by
  intro t s k hs hk
  obtain ⟨b, hl, hle, hk⟩ := hasB_some hk
  rw [turn_eq b (f' := fun t => pT1 l t lo) (fun t k => putL_eq l t lo k)] at hk
  have hle' : lo + l.length ≤ b.n := hle
  have hcap := hs.h.cap id b hl
  change lay id (some ⟨b.z, b.n, pT1 l b.t lo⟩) t.h (fun h => lgW ⟨t.tr, h, t.n, t.r, t.w⟩ id lo l.length (k ())) = true at hk
  rw [lay_eq, lgW_eq] at hk
  refine ⟨(), (), _, _, ?_, rfl, ((hs.heap hs.n (hs.h.put id (some ⟨b.z, b.n, pT1 l b.t lo⟩) ?_)).logW id lo l.length), hk⟩
  · unfold Ev.M.wr
    rw [hl0]
    dsimp only
    rw [hs.h.some hl]
    simp only [Bk.pl, getL_length]
    rw [Nat.ble_eq_true_of_le hle']
    simp only [Option.map_some, Bk.pl]
    rw [getL_put hcap hle']
  · rintro k' ⟨⟩
    dsimp only
    rw [capT_put]; exact hcap
theorem Ref.wr (id : Id) (lo : Nat) (l : List AV) : Ref Eq (Kq.wr id lo l) (Ev.M.wr id lo l) := by
  unfold Kq.wr
  cases l with
  | nil => exact Ref.pure rfl
  | cons v l =>
    have := Ref.wrN id lo (v :: l) rfl
    rw [← lnL_eq] at this
    exact this
theorem Ref.wr1 (id : Id) (off : Nat) {v : AV} (hv : v.cells = some [v]) : Ref Eq (Kq.wr1 id off v) (Ev.stF 1 (.p id off) v) := by
  have h1 : Ref Eq (M.bind (Kq.wrN id off 1 [v]) fun _ => M.pure und) (Ev.M.bind (Ev.M.wr id off [v]) fun _ => Ev.M.pure und) :=
    Ref.bind (R := Eq) (Ref.wrN id off [v] rfl) fun _ _ _ => Ref.pure rfl
  have h2 : Ev.stF 1 (.p id off) v = Ev.M.bind (Ev.M.wr id off [v]) fun _ => Ev.M.pure und := by
    simp only [Ev.stF, hv]
    rfl
  rw [h2]
  exact h1
theorem Ref.newT {z : Zf} {n : Nat} {t : Tr} {l : List AV} (hn : n = l.length) (hl : n ≤ capT t → getL n t 0 = l) : Ref Eq (Kq.newT z n t) (Ev.M.new z l) := by
  intro u s k hs hk
  unfold Kq.newT at hk
  cases hb : Nat.ble n (capT t) with
  | false => rw [hb] at hk; cases hk
  | true =>
    rw [hb] at hk
    dsimp only at hk
    have hle := Nat.le_of_ble_eq_true hb
    obtain ⟨j, hj, hk⟩ := incQ_some hk
    change lay u.n (some ⟨z, n, t⟩) u.h (fun h => lgW ⟨u.tr, h, j, u.r, u.w⟩ u.n 0 (n + 1) (k u.n)) = true at hk
    rw [lay_eq, lgW_eq] at hk
    rw [hs.n] at hj
    have h1 := ((hs.heap (n := j) rfl (hs.h.put u.n (some ⟨z, n, t⟩) (by rintro k' ⟨⟩; exact hle))).logW u.n 0 (n + 1))
    refine ⟨_, _, _, _, ?_, hs.n, h1, hk⟩
    unfold Ev.M.new
    rw [hj]
    simp only [Option.map_some, Bk.pl]
    rw [hl hle, hn, hs.n]
theorem Ref.new (z : Zf) (l : List AV) : Ref Eq (Kq.new z l) (Ev.M.new z l) := by
  have h : Kq.new z l = Kq.newT z l.length (clT l) := by
    funext s k
    unfold Kq.new
    rw [toT_eq, lnL_eq]
  rw [h]
  exact Ref.newT rfl (toT_ok l)
theorem noM_some {z : Zf} {k : Bool} (h : noM z k = true) : z.m = none ∧ k = true := by
  obtain ⟨zs, zb, zt, m⟩ := z
  cases m with
  | none => exact ⟨rfl, h⟩
  | some l => cases h
theorem isM_some {z : Zf} {k : List AV → Bool} (h : isM z k = true) : ∃ l, z.m = some l ∧ k l = true := by
  obtain ⟨zs, zb, zt, m⟩ := z
  cases m with
  | none => cases h
  | some l => exact ⟨l, rfl, h⟩
theorem Ref.over (id : Id) (lo m : Nat) (l : List AV) : Ref Eq (Kq.over id lo m l) (Ev.M.over id lo m l) := by
  intro t s k hs hk
  obtain ⟨b, hl, hle, hk⟩ := hasB_some hk
  have hle' : lo + m ≤ b.n := hle
  obtain ⟨hnm, hk⟩ := noM_some hk
  obtain ⟨j, hj, hk⟩ := incQ_some hk
  have hcap := hs.h.cap id b hl
  rw [hs.n] at hj
  have key : ∀ T : Tr, (m + l.length ≤ capT T → getL (m + l.length) T 0 = (((getL b.n b.t 0).drop lo).take m) ++ l) → over2 j id lo m l b t k T = true →
      ∃ a b' t' s', Ev.M.over id lo m l s = some (b', s') ∧ a = b' ∧ RS t' s' ∧ k a t' = true := by
    intro T hT hk
    unfold over2 at hk
    rw [lnL_eq] at hk
    cases hb : Nat.ble (Nat.add m l.length) (capT T) with
    | false => rw [hb] at hk; cases hk
    | true =>
      rw [hb] at hk
      dsimp only at hk
      rw [lnL_eq] at hk
      have hT' := Nat.le_of_ble_eq_true hb
      change lay id none t.h (fun h => lay t.n (some ⟨b.z.over lo, m + l.length, T⟩) h fun h => lgR ⟨t.tr, h, j, t.r, t.w⟩ id 0 (b.n + 1) fun s' => lgW s' id 0 (b.n + 1) fun s' => lgW s' t.n 0 (m + l.length + 1) (k t.n)) = true at hk
      rw [lay_eq, lay_eq, lgR_eq, lgW_eq, lgW_eq] at hk
      have h1 := (((hs.heap (n := j) rfl ((hs.h.put id none (by rintro k' ⟨⟩)).put t.n (some ⟨b.z.over lo, m + l.length, T⟩) (by rintro k' ⟨⟩; exact hT'))).logR id 0 (b.n + 1)).logW id 0 (b.n + 1)).logW t.n 0 (m + l.length + 1)
      refine ⟨_, _, _, _, ?_, hs.n, h1, hk⟩
      unfold Ev.M.over
      rw [hs.h.some hl]
      simp only [Bk.pl, getL_length]
      rw [Nat.ble_eq_true_of_le hle', hnm, show ((none : Option (List AV)).isNone && true) = true from rfl]
      dsimp only
      rw [hj]
      simp only [Option.map_some, Option.map_none, Bk.pl]
      rw [hT hT', hs.n]
  cases h0 : Nat.beq lo 0 with
  | true =>
    rw [h0] at hk
    obtain rfl := Nat.eq_of_beq_eq_true h0
    dsimp only at hk
    rw [putL_eq] at hk
    refine key _ (fun hc => ?_) hk
    rw [lnL_eq] at hc ⊢
    obtain ⟨f1, f2⟩ := fitT_ok 6 b.t (Nat.add m l.length)
    rw [capT_put] at hc
    have hmc : m ≤ capT b.t := by omega
    refine getL_of ?_ fun q hq => ?_
    · rw [List.length_append, List.length_take, List.length_drop, getL_length]; omega
    · rw [getT_put _ _ _ _ hc (by omega)]
      have hlen : (((getL b.n b.t 0).drop 0).take m).length = m := by rw [List.length_take, List.length_drop, getL_length]; omega
      by_cases h1 : q < m
      · rw [if_neg (by omega), List.getElem?_append_left (by omega), List.drop_zero, List.getElem?_take, if_pos h1, getL_get, if_pos (by omega), Nat.zero_add, f2 q (by omega)]
        rfl
      · rw [if_pos (by omega), List.getElem?_append_right (by omega), hlen]
  | false =>
    rw [h0] at hk
    dsimp only at hk
    rw [getK_eq, toT_eq, apL_eq, ← getL_part hle'] at hk
    refine key _ (fun hc => ?_) hk
    have hlen : ((((getL b.n b.t 0).drop lo).take m) ++ l).length = m + l.length := by rw [List.length_append, List.length_take, List.length_drop, getL_length]; omega
    have := toT_ok ((((getL b.n b.t 0).drop lo).take m) ++ l)
    rw [hlen] at this
    exact this hc
theorem Ref.shared (id : Id) : Ref Eq (Kq.shared id) (Ev.M.shared id) := by
  intro t s k hs hk
  obtain ⟨b, hl, hle, hk⟩ := hasB_some hk
  obtain ⟨hnm, hk⟩ := noM_some hk
  rw [lgR_eq] at hk
  refine ⟨_, _, _, _, ?_, rfl, hs.logR id b.n 1, hk⟩
  unfold Ev.M.shared
  rw [hs.h.some hl]
  simp only [Bk.pl, getL_length, hnm]
theorem Ref.ends (id : Id) : Ref Eq (Kq.ends id) (Ev.M.ends id) := by
  intro t s k hs hk
  obtain ⟨b, hl, hle, hk⟩ := hasB_some hk
  obtain ⟨hnm, hk⟩ := noM_some hk
  rw [lgR_eq] at hk
  refine ⟨_, _, _, _, ?_, rfl, hs.logR id b.n 1, hk⟩
  unfold Ev.M.ends
  rw [hs.h.some hl]
  simp only [Bk.pl, getL_length, hnm]
theorem foL_eq : ∀ (l : List AV) (k : List AV → Bool), foL l k = k l
  | [], _ => rfl
  | v :: l, k => by
    show fo1 v (fun v => foL l fun l => k (v :: l)) = _
    rw [fo1_eq, foL_eq l]
theorem fo2_eq (v : AV) (k : AV → Bool) : fo2 v k = k v := by
  cases v <;> first | rfl | exact foL_eq _ _
theorem Ref.rdM (id : Id) : Ref Eq (Kq.rdM id) (Ev.M.rdM id) := by
  intro t s k hs hk
  obtain ⟨b, hl, hle, hk⟩ := hasB_some hk
  obtain ⟨l, hm, hk⟩ := isM_some hk
  rw [lgR_eq] at hk
  refine ⟨_, _, _, _, ?_, rfl, hs.logR id b.n 1, hk⟩
  unfold Ev.M.rdM
  rw [hs.h.some hl]
  simp only [Bk.pl, getL_length, hm]
theorem Ref.wrM (id : Id) (l : List AV) : Ref Eq (Kq.wrM id l) (Ev.M.wrM id l) := by
  intro t s k hs hk
  obtain ⟨b, hl, hle, hk⟩ := hasB_some hk
  obtain ⟨l0, hm, hk⟩ := isM_some hk
  rw [foL_eq] at hk
  have hcap := hs.h.cap id b hl
  obtain ⟨⟨zs, zb, zt, zm⟩, n, tt⟩ := b
  change lay id (some ⟨⟨zs, zb, zt, some l⟩, n, tt⟩) t.h (fun h => lgR ⟨t.tr, h, t.n, t.r, t.w⟩ id n 1 fun s => lgW s id n 1 (k ())) = true at hk
  rw [lay_eq, lgR_eq, lgW_eq] at hk
  refine ⟨(), (), _, _, ?_, rfl, (((hs.heap hs.n (hs.h.put id (some ⟨⟨zs, zb, zt, some l⟩, n, tt⟩) ?_)).logR id n 1).logW id n 1), hk⟩
  · unfold Ev.M.wrM
    rw [hs.h.some hl]
    simp only at hm
    subst hm
    simp only [Option.map_some, Bk.pl, getL_length]
  · rintro k' ⟨⟩
    exact hcap
end Kq
end Ev
end Go.Proofs.YthknbcbkibbncaaGreat
