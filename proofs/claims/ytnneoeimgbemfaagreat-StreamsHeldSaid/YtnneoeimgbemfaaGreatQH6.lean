/- DERIVED. Cut of a set of ranges. -/
import Derived.Laws.ResultCell
import Derived.Deep.RegionWith
import Derived.Deep.CutBlock
import Derived.Deep.DeepCutAuto
import Derived.OwnWalk
import Derived.Test.YtnneoeimgbemfaaGreatQH3
import Derived.Test.YtnneoeimgbemfaaGreatQH4
import Derived.Test.YtnneoeimgbemfaaGreatQH5
set_option linter.all false
namespace Go.Proofs.YtnneoeimgbemfaaGreat
open Go.RowKit

/-- The worlds of Cut's loop: the new list so far. -/
structure CutSt (w0 : World) (ys : List Rg) (v : Value) (og : Option Nat) (w : World) : Prop where
  sl : Sl w v og ys
  new : ∀ g, og = some g → w0.heap.size ≤ g
  below : Below w0.heap.size w0 w
theorem CutSt.size {w0 : World} {ys : List Rg} {v : Value} {og : Option Nat} {w : World} (h : CutSt w0 ys v og w) : w0.heap.size ≤ w.heap.size := h.below.size
theorem CutSt.alloc {w0 : World} {ys : List Rg} {v : Value} {og : Option Nat} {w : World} (h : CutSt w0 ys v og w) (o : Obj) : CutSt w0 ys v og (w.alloc o) :=
  ⟨h.sl.below ((Below.refl _ _).alloc (Nat.le_refl _) _), h.new, h.below.alloc h.size _⟩

/-- append(out, one range). -/
theorem cut_push {w0 w : World} {ys : List Rg} {v : Value} {og : Option Nat} (h : CutSt w0 ys v og w) {i0 : TypeInfo} (hi : Tryz.prog.info? 123 = some i0) (hz0 : i0.zero = some (.agg #[.int .u64 0, .int .u64 0])) (hz1 : i0.size = 2) (hz2 : i0.bytes = 16)
    {ops : Array Oper} {rest : List Oper} {o : Oper} {a : Act} {Q : Exit → Act → World → Prop} (hgd : o.guard = none) (d s : Operand)
    (ho : o.op = .call { callee := .builtin .append, args := #[d, s], argTypes := #[42, 42] }) {h' : Nat} {r : Rg} {E' : TypeId} (hs : Row encR w E' h' [r])
    (hd : a.eval d = v) {c : Nat} (hsv : a.eval s = .slice (some ⟨h', 0, none⟩) 1 c) (hb : ys.length * 16 + 16 ≤ 140737488355328)
    (hK : ∀ W v' og', CutSt w0 (ys ++ [r]) v' og' W → (og' = og ∨ ∃ g, og' = some g ∧ w.heap.size ≤ g) → Upd (fun j => og = some j) w W → wpList Tryz.prog ops Q rest (a.put o.dst v') W) : wpList Tryz.prog ops Q (o :: rest) a w := by
  obtain ⟨h1, h2, h3⟩ := h
  refine wpList_push encR_len encR_one Tryz.underlying42 hi hz1 hz0 zeroR hgd d s ho (show SlG encR 123 w v og ys from h1) hs hd hsv rfl (by rw [hz2]; omega) (by omega) ?_
  intro W v' og' hS ho' hU hsz
  refine hK W v' og' ⟨hS, ?_, ?_⟩ ho' hU
  · rcases ho' with rfl | ⟨g, rfl, hg⟩
    · exact h2
    · intro g' e
      cases e
      exact Nat.le_trans h3.size hg
  · exact Upd.onto h3 hU h3.size (fun j hj e => by have := h2 j e; omega)

theorem CutSt.store {w0 : World} {ys : List Rg} {v u : Value} {og : Option Nat} {w : World} (h : CutSt w0 ys v og w) {b : Nat} {most : Int} (hb : w0.heap[b]? = some (.cells #[.int .i64 most, u] 134 (0, 0))) :
    SetIs (w.setCell ⟨b, 1, none⟩ v) b most v og ys ∧ Upd (fun j => j = b) w0 (w.setCell ⟨b, 1, none⟩ v) := by
  have hbl := heap_lt hb
  have hoo : og ≠ some b := fun e => by have := h.new _ e; omega
  refine ⟨⟨set_store (below_keeps h.below hb hbl) v, h.sl.keeps (F := fun j => j = b) (Upd.setCell (Upd.refl (fun j => j = b) w) ⟨b, 1, none⟩ (.inl rfl) _) (fun j hj e => hoo (by rw [hj, e])), hoo⟩, ?_⟩
  exact Upd.setCell (F := fun j => j = b) ((Upd.below h.below).mono (fun i hi x => by omega)) ⟨b, 1, none⟩ (.inl rfl) _

theorem row_two (w : World) (o : Obj) (r : Rg) : Row encR ((w.alloc o).alloc (.cells #[.int .u64 r.1, .int .u64 r.2] 123)) 123 (w.heap.size + 1) [r] := by
  have := alloc_at (w.alloc o) (.cells #[.int .u64 r.1, .int .u64 r.2] 123)
  rw [show (w.alloc o).heap.size = w.heap.size + 1 by simp] at this
  exact this

set_option maxRecDepth 100000 in
set_option maxHeartbeats 4000000 in
theorem cut_any (b : Nat) (most : Int) (og : Option Nat) (xs : List Rg) (lo hi : Nat) (w : World) (h : SetAt w b most og xs) (hm : 1 ≤ most) (hm2 : most ≤ 9223372036854775807) (_hlo : lo < 18446744073709551616) (_hhi : hi < 18446744073709551616) (hx : Norm xs) (hl : xs.length * 32 + 64 ≤ 140737488355328) :
    Calls Tryz.prog 66 #[.pointer (some ⟨b, 0, none⟩), .int .u64 lo, .int .u64 hi] w fun e w' => e = .returned (.tuple #[]) ∧ Turned w b most og (trimL most (cutRaw lo hi xs)) w' := by
  obtain ⟨i0, hi0, hz0, hz1, hz2⟩ := info_parts infoR
  obtain ⟨v, hb, hs, hne⟩ := h
  have c1 := cell_at hb 1
  simp at c1
  obtain ⟨oa, cap, rfl, hcap, hcap2⟩ := hs.shape
  have HSET := Lib.hid hb
  have HS := Lib.hid hs
  have HX := Lib.hid hx
  clear hb hs hx
  generalize hn : xs.length = len at *
  have HN := Lib.hid hn
  clear hn
  have hlen : ∀ k, k ≤ len → (cutRaw lo hi (xs.take k)).length ≤ 2 * k := fun k hk => Nat.le_trans (cutRaw_len lo hi _) (by rw [List.length_take]; omega)
  have HLEN := Lib.hid hlen
  clear hlen
  go_enter Tryz.func66, Tryz.ntmps66
  go_wp2_with fail
  clear c1
  go_loopw [6, 14] (fun ov i wr => ∃ (k : Nat) (vo : Value) (oo : Option Nat), i = .int .i64 k ∧ k ≤ len ∧ vo = ov ∧ CutSt w (cutRaw lo hi (xs.take k)) vo oo wr) (fun _ i _ => len - (intOf i).toNat)
  case atStart => exact ⟨0, _, none, rfl, by omega, rfl, ⟨Sl.nil _, by simp, Below.refl _ _⟩⟩
  case round =>
    obtain ⟨k, vo, oo, rfl, hk, rfl, hst⟩ := hrel
    have HST := Lib.hid hst
    clear hst
    by_cases hlt : k < len
    · obtain ⟨r, hr⟩ : ∃ r, xs[k]? = some r := ⟨_, List.getElem?_eq_getElem (by rw [HN.out]; exact hlt)⟩
      obtain ⟨hr1, hr2⟩ := HX.out.at hr
      obtain ⟨g, hog, rfl, hgl, c0, c1⟩ := HS.out.atS hr
      have d0 := (HST.out.below.cell (p := ⟨g, k * 2, none⟩) hgl).trans c0
      have d1 := (HST.out.below.cell (p := ⟨g, k * 2 + 1, none⟩) hgl).trans c1
      have HT := Lib.hid (cutRaw_take (lo := lo) (hi := hi) hr)
      have hlen := HLEN.out k hk
      clear c0 c1 hog hr
      generalize cutRaw lo hi (xs.take k) = ys at *
      generalize hnx : cutRaw lo hi (xs.take (k + 1)) = nxt at *
      have HNX := Lib.hid hnx
      clear hnx
      by_cases hkeep : hi ≤ lo ∨ r.2 ≤ lo ∨ hi ≤ r.1
      · have hc1 : cut1 lo hi r = [r] := by rw [cut1, if_pos hkeep]
        have HC1 := Lib.hid hc1
        clear hc1
        rcases (show hi ≤ lo ∨ (¬ hi ≤ lo ∧ r.2 ≤ lo) ∨ (¬ hi ≤ lo ∧ ¬ r.2 ≤ lo ∧ hi ≤ r.1) by omega) with h1 | ⟨h1, h2⟩ | ⟨h1, h2, h3⟩
        all_goals
          clear hkeep
          go_wp2_with (refine cut_push (by exact (HST.out.alloc _).alloc _) hi0 hz0 hz1 hz2 rfl (.tmp 33) (.tmp 35) rfl (r := r) (by exact row_two _ _ r) rfl rfl ?c1 ?_)
          case c1 => omega
          intro W1 v1 o1 hS1 ho1 hU1
          have HS1 := Lib.hid hS1
          clear hS1 ho1 hU1 HST
          go_wp2
          go_roundw
          case rel => exact ⟨k + 1, _, o1, by go_num, by omega, rfl, by rw [HNX.out, HT.out, HC1.out]; exact HS1.out⟩
          case measure => simp [intOf]; omega
      · have hc1 : cut1 lo hi r = (if r.1 < lo then [(r.1, lo)] else []) ++ (if hi < r.2 then [(hi, r.2)] else []) := by rw [cut1, if_neg hkeep]
        have HC1 := Lib.hid hc1
        obtain ⟨h1, h2, h3⟩ : ¬ hi ≤ lo ∧ ¬ r.2 ≤ lo ∧ ¬ hi ≤ r.1 := ⟨by omega, by omega, by omega⟩
        clear hc1 hkeep
        have HR := Lib.hid (alloc_at wr (.cells #[.int .u64 r.1, .int .u64 r.2] 123))
        have HLT := Lib.hid (show ∀ j, oo = some j → j < wr.heap.size from HST.out.sl.lt)
        by_cases h4 : r.1 < lo
        · go_wp2_with (refine cut_push (by exact (HST.out.alloc _).alloc _) hi0 hz0 hz1 hz2 rfl (.tmp 41) (.tmp 46) rfl (r := (r.1, lo)) (by exact row_two _ _ (r.1, lo)) rfl rfl ?c1 ?_)
          case c1 => omega
          intro W1 v1 o1 hS1 ho1 hU1
          have HS1 := Lib.hid hS1
          have hR1 := hU1.keeps (alloc_old (o := .cells #[.int .u64 r.1, .int .u64 lo] 123) HR.out) (by intro e; have := HLT.out _ e; omega)
          have e0 := cell_at hR1 0
          have e1 := cell_at hR1 1
          simp at e0 e1
          clear hS1 ho1 hU1 HST hR1 d0 d1 HR
          by_cases h5 : hi < r.2
          · go_wp2_with (refine cut_push (by exact HS1.out.alloc _) hi0 hz0 hz1 hz2 rfl (.tmp 52) (.tmp 57) rfl (r := (hi, r.2)) (by exact alloc_at _ _) rfl rfl ?c1 ?_)
            case c1 => simp only [List.length_append, List.length_cons, List.length_nil]; omega
            intro W2 v2 o2 hS2 ho2 hU2
            have HS2 := Lib.hid hS2
            clear hS2 ho2 hU2 HS1
            go_wp2
            go_roundw
            case rel => exact ⟨k + 1, _, o2, by go_num, by omega, rfl, by rw [HNX.out, HT.out, HC1.out, if_pos h4, if_pos h5]; simpa using HS2.out⟩
            case measure => simp [intOf]; omega
          · go_wp2
            go_roundw
            case rel => exact ⟨k + 1, _, o1, by go_num, by omega, rfl, by rw [HNX.out, HT.out, HC1.out, if_pos h4, if_neg h5]; simpa using HS1.out⟩
            case measure => simp [intOf]; omega
        · by_cases h5 : hi < r.2
          · go_wp2_with (refine cut_push (by exact (HST.out.alloc _).alloc _) hi0 hz0 hz1 hz2 rfl (.tmp 52) (.tmp 57) rfl (r := (hi, r.2)) (by exact row_two _ _ (hi, r.2)) rfl rfl ?c1 ?_)
            case c1 => omega
            intro W1 v1 o1 hS1 ho1 hU1
            have HS1 := Lib.hid hS1
            clear hS1 ho1 hU1 HST
            go_wp2
            go_roundw
            case rel => exact ⟨k + 1, _, o1, by go_num, by omega, rfl, by rw [HNX.out, HT.out, HC1.out, if_neg h4, if_pos h5]; simpa using HS1.out⟩
            case measure => simp [intOf]; omega
          · go_wp2
            go_roundw
            case rel => exact ⟨k + 1, _, oo, by go_num, by omega, rfl, by rw [HNX.out, HT.out, HC1.out, if_neg h4, if_neg h5]; simpa using HST.out.alloc _⟩
            case measure => simp [intOf]; omega
    · have hbl : b < w.heap.size := heap_lt HSET.out
      have hbw := below_keeps HST.out.below HSET.out hbl
      have fb := free_at hbw 1
      have cb := cell_at hbw 1
      simp at cb
      have hfin : cutRaw lo hi (xs.take k) = cutRaw lo hi xs := by rw [List.take_of_length_le (by rw [HN.out]; omega)]
      rw [hfin] at HST
      obtain ⟨oa2, cap2, rfl, hq1, hq2⟩ := HST.out.sl.shape
      have HSA := Lib.hid (HST.out.store HSET.out).1
      have HU := Lib.hid (HST.out.store HSET.out).2
      have HNEW := Lib.hid (show ∀ g, oo = some g → w.heap.size ≤ g from HST.out.new)
      have HSZ := Lib.hid HU.out.size
      clear hbw hfin
      go_wp2_with fail
      refine (trim_any b most oo (cutRaw lo hi xs) _ ⟨_, by exact HSA.out⟩ hm hm2).mono ?_
      rintro e w' ⟨rfl, ht⟩
      have HT := Lib.hid ht
      clear ht
      go_wp2
      refine bodyPost_end (results_none rfl _ _ _) rfl ?_
      refine ⟨rfl, ?_⟩
      obtain ⟨o2, h1, h2, h3⟩ := HT.out
      refine ⟨o2, h1, ?_, ?_⟩
      · rcases h2 with rfl | rfl | ⟨g, rfl, hg⟩
        · cases o2 with
          | none => exact .inr (.inl rfl)
          | some g => exact .inr (.inr ⟨g, rfl, HNEW.out g rfl⟩)
        · exact .inr (.inl rfl)
        · exact .inr (.inr ⟨g, rfl, Nat.le_trans HSZ.out hg⟩)
      · refine HU.out.trans h3 (fun i _ x => .inl x) (fun i hi x => ?_)
        rcases x with rfl | x
        · exact .inl rfl
        · have := HNEW.out i x
          omega
end Go.Proofs.YtnneoeimgbemfaaGreat

/- DERIVED. A part of a slice, x[i:j]; four results. -/
namespace Go.Proofs.YtnneoeimgbemfaaGreat
open Go.RowKit

def partV (oa : Option Addr) (k cap l h : Nat) : Value := .slice (if cap = l then oa else oa.map (·.add (l * k))) (h - l) (cap - l)
theorem exec_part {P : Program} {o : Oper} {w : World} {t e : TypeId} (hu : P.underlying t = some (.slice e)) {i : TypeInfo} (hi : P.info? e = some i) {f : Operand → Value} {x l h : Operand} (ho : o.op = .slice t x (some l) (some h) none) {oa : Option Addr} {len cap : Nat} {n m : Nat} {kn km : IntKind}
    (hx : f x = .slice oa len cap) (hl : f l = .int kn n) (hh : f h = .int km m) (h1 : n ≤ m) (h2 : m ≤ cap) : (execOp f o).run P w = .ok (.value (partV oa i.size cap n m)) w := by
  simp [execOp, ho, hx, hl, hh, Instr.sliceAt, Instr.slice, run_underlying hu, Instr.sliceBounds, Instr.sliceBound, sizeOf, typeInfo, asIntOf, hi, h1, h2, partV]
theorem Vw.mid {α : Type} {enc : α → List Value} {k : Nat} {w : World} {B : Nat} {oa : Option Addr} {len cap l h : Nat} {xs : List α} (hv : Vw enc w B (.slice oa len cap) xs) (hk : ∀ a, (enc a).length = k) (h1 : l ≤ h) (h2 : h ≤ len) : Vw enc w B (partV oa k cap l h) ((xs.drop l).take (h - l)) := by
  have ht := hv.tail hk (Nat.le_trans h1 h2)
  obtain ⟨oa', cap', e1, e2, e3, _⟩ := hv
  cases e1
  obtain ⟨o2, c2, f1, f2, f3, f4⟩ := ht
  unfold tailV at f1
  have f5 : o2 = (if cap = l then oa else oa.map (·.add (l * k))) ∧ c2 = cap - l := by
    rw [Value.slice.injEq] at f1
    exact ⟨f1.1.symm, f1.2.2.symm⟩
  have hl : ((xs.drop l).take (h - l)).length = h - l := by rw [List.length_take, List.length_drop]; omega
  refine ⟨_, cap - l, by rw [hl]; rfl, by rw [hl]; omega, by omega, ?_⟩
  rcases f4 with f4 | ⟨b, off, f6, f7, f8⟩
  · left
    rw [f4, List.take_nil]
  · right
    rw [f5.1] at f6
    refine ⟨b, off, f6, f7, fun j u hj => f8 j u ?_⟩
    rw [← flat_take hk, List.getElem?_take] at hj
    split at hj
    · exact hj
    · cases hj
theorem results_tmp4 {fn : Func} {t u v x : Tmp} (h : fn.results = #[.tmp t, .tmp u, .tmp v, .tmp x]) (tmps : Array Value) (P : Program) (w : World) :
    (results fn tmps).run P w = .ok (.tuple #[tmps.getD t undef, tmps.getD u undef, tmps.getD v undef, tmps.getD x undef]) w := by
  simp [results, h]
theorem results_tmp5 {fn : Func} {t u v x y : Tmp} (h : fn.results = #[.tmp t, .tmp u, .tmp v, .tmp x, .tmp y]) (tmps : Array Value) (P : Program) (w : World) :
    (results fn tmps).run P w = .ok (.tuple #[tmps.getD t undef, tmps.getD u undef, tmps.getD v undef, tmps.getD x undef, tmps.getD y undef]) w := by
  simp [results, h]
end Go.Proofs.YtnneoeimgbemfaaGreat

/- DERIVED. Plain laws of lists of ranges: the program's answers are the document's. -/
namespace Go.Proofs.YtnneoeimgbemfaaGreat
open Go.RowKit

theorem from_ge (xs : List Rg) : ∀ f : Nat, f ≤ xs.foldl fromR f := by
  induction xs with
  | nil => intro f; exact Nat.le_refl _
  | cons r xs ih =>
    intro f
    refine Nat.le_trans ?_ (ih (fromR f r))
    unfold fromR
    split <;> omega
theorem from_above (xs : List Rg) (f : Nat) (h : ∀ r ∈ xs, f < r.1) : xs.foldl fromR f = f := by
  induction xs with
  | nil => rfl
  | cons r xs ih =>
    have h1 := h r (List.mem_cons_self ..)
    simp only [List.foldl_cons]
    rw [show fromR f r = f by rw [fromR, if_neg (by omega)]]
    exact ih (fun x hx => h x (List.mem_cons_of_mem _ hx))
theorem end_above (xs : List Rg) (f e : Nat) (h : ∀ r ∈ xs, e ≤ r.1) : xs.foldl (endR f) e = e := by
  induction xs with
  | nil => rfl
  | cons r xs ih =>
    have h1 := h r (List.mem_cons_self ..)
    simp only [List.foldl_cons]
    rw [show endR f e r = e by unfold endR; split <;> omega]
    exact ih (fun x hx => h x (List.mem_cons_of_mem _ hx))
theorem Norm.tail {r : Rg} {xs : List Rg} (h : Norm (r :: xs)) : Norm xs := ⟨fun x hx => h.1 x (List.mem_cons_of_mem _ hx), (List.pairwise_cons.1 h.2).2⟩
theorem Norm.head {r : Rg} {xs : List Rg} (h : Norm (r :: xs)) : (r.1 < r.2 ∧ r.2 ≤ 4611686018427387904) ∧ ∀ x ∈ xs, r.2 < x.1 := ⟨h.1 r (List.mem_cons_self ..), (List.pairwise_cons.1 h.2).1⟩
theorem gapF_is (t : Nat) : ∀ (xs : List Rg) (f : Nat), Norm xs →
    (gapF xs f t).1 = xs.foldl fromR f ∧ (gapF xs f t).2 = xs.foldl (endR (xs.foldl fromR f)) t ∧ ((gapF xs f t).2 ≤ (gapF xs f t).1 ↔ t ≤ (gapF xs f t).1)
  | [], f, _ => ⟨rfl, rfl, Iff.rfl⟩
  | r :: xs, f, hn => by
    obtain ⟨⟨h1, h2⟩, h3⟩ := hn.head
    unfold gapF
    by_cases c1 : r.2 ≤ f
    · rw [if_pos c1]
      obtain ⟨i1, i2, i3⟩ := gapF_is t xs f hn.tail
      have e1 : fromR f r = f := by rw [fromR, if_neg (by omega)]
      have g := from_ge xs f
      have e2 : endR (xs.foldl fromR f) t r = t := by rw [endR, if_neg (by omega)]
      simp only [List.foldl_cons, e1, e2]
      exact ⟨i1, i2, i3⟩
    · rw [if_neg c1]
      by_cases c2 : f < r.1
      · rw [if_pos c2]
        have e1 : fromR f r = f := by rw [fromR, if_neg (by omega)]
        have e2 : endR f t r = min t r.1 := by rw [endR, if_pos c2]
        simp only [List.foldl_cons, e1]
        rw [from_above xs f (fun x hx => by have := h3 x hx; omega), e2, end_above xs f _ (fun x hx => by have := h3 x hx; omega)]
        exact ⟨rfl, rfl, by omega⟩
      · rw [if_neg c2]
        obtain ⟨i1, i2, i3⟩ := gapF_is t xs r.2 hn.tail
        have e1 : fromR f r = r.2 := by rw [fromR, if_pos (by omega)]
        have g := from_ge xs r.2
        have e2 : endR (xs.foldl fromR r.2) t r = t := by rw [endR, if_neg (by omega)]
        simp only [List.foldl_cons, e1, e2]
        exact ⟨i1, i2, i3⟩
theorem gapR_is (xs : List Rg) (f t : Nat) (hn : Norm xs) : gapR xs f t = gapL xs f t := by
  obtain ⟨i1, i2, i3⟩ := gapF_is t xs f hn
  unfold gapR gapL
  by_cases h : t ≤ xs.foldl fromR f
  · rw [if_pos h, if_pos (by rw [i3, i1]; exact h)]
  · rw [if_neg h, if_neg (by rw [i3, i1]; exact h), ← i2, ← i1]
end Go.Proofs.YtnneoeimgbemfaaGreat

/- DERIVED. Plain laws: the two ways to add a range are one. -/
namespace Go.Proofs.YtnneoeimgbemfaaGreat
open Go.RowKit

def addN : List Rg → Rg → List Rg
  | [], x => [x]
  | r :: rs, x => if r.2 < x.1 then r :: addN rs x else if x.2 < r.1 then x :: r :: rs else addN rs (min x.1 r.1, max x.2 r.2)

theorem ra_after (rs : List Rg) : ∀ (ys : List Rg) (x : Rg), (∀ r ∈ rs, ¬ r.2 < x.1 ∧ x.2 < r.1) → rs.foldl Ra.step ⟨ys, x, true⟩ = ⟨ys ++ rs, x, true⟩ := by
  induction rs with
  | nil => intro ys x _; simp
  | cons r rs ih =>
    intro ys x h
    obtain ⟨h1, h2⟩ := h r (List.mem_cons_self ..)
    simp only [List.foldl_cons]
    rw [show Ra.step ⟨ys, x, true⟩ r = ⟨ys ++ [r], x, true⟩ by simp [Ra.step, h1, h2], ih _ _ (fun a ha => h a (List.mem_cons_of_mem _ ha))]
    simp
def Ra.fin (s : Ra) : List Rg := if s.done then s.out else s.out ++ [s.x]
theorem ra_is (rs : List Rg) : ∀ (ys : List Rg) (x : Rg), x.1 < x.2 → Norm rs → (rs.foldl Ra.step ⟨ys, x, false⟩).fin = ys ++ addN rs x := by
  induction rs with
  | nil => intro ys x _ _; simp [Ra.fin, addN]
  | cons r rs ih =>
    intro ys x hx hn
    obtain ⟨⟨h1, h2⟩, h3⟩ := hn.head
    simp only [List.foldl_cons, addN]
    by_cases c1 : r.2 < x.1
    · rw [if_pos c1, show Ra.step ⟨ys, x, false⟩ r = ⟨ys ++ [r], x, false⟩ by simp [Ra.step, c1], ih _ _ hx hn.tail]
      simp
    · rw [if_neg c1]
      by_cases c2 : x.2 < r.1
      · rw [if_pos c2, show Ra.step ⟨ys, x, false⟩ r = ⟨ys ++ [x] ++ [r], x, true⟩ by simp [Ra.step, c1, c2], ra_after _ _ _ (fun a ha => by
          have := h3 a ha
          have := hn.1 a (List.mem_cons_of_mem _ ha)
          omega)]
        simp [Ra.fin]
      · rw [if_neg c2, show Ra.step ⟨ys, x, false⟩ r = ⟨ys, (min x.1 r.1, max x.2 r.2), false⟩ by simp [Ra.step, c1, c2], ih _ _ (by simp only []; omega) hn.tail]
theorem addR_is {xs : List Rg} {lo hi : Nat} (h : lo < hi) (hn : Norm xs) : addR lo hi xs = addN xs (lo, hi) := by
  have := ra_is xs [] (lo, hi) h hn
  rw [List.nil_append] at this
  exact this

theorem addN_mid (hi : Nat) : ∀ (rs : List Rg) (x : Rg), x.1 < x.2 → Norm rs → (∀ r ∈ rs, x.1 ≤ r.2) → (∀ r ∈ rs, x.2 < r.1 ↔ hi < r.1) →
    addN rs x = fuse x (rs.takeWhile (fun x => decide (x.1 ≤ hi))) :: rs.drop (rs.takeWhile (fun x => decide (x.1 ≤ hi))).length
  | [], x, _, _, _, _ => by simp [addN, fuse]
  | r :: rs, x, hx, hn, hb, hc => by
    obtain ⟨⟨h1, h2⟩, h3⟩ := hn.head
    have b1 := hb r (List.mem_cons_self ..)
    have c1 := hc r (List.mem_cons_self ..)
    rw [addN, if_neg (by omega)]
    by_cases c2 : x.2 < r.1
    · rw [if_pos c2, List.takeWhile_cons_of_neg (by simpa using c1.1 c2)]
      simp [fuse]
    · have c3 : ¬ hi < r.1 := fun h => c2 (c1.2 h)
      rw [if_neg c2, List.takeWhile_cons_of_pos (by simpa using Nat.le_of_not_lt c3), addN_mid hi rs _ (by simp only []; omega) hn.tail (fun a ha => by
        have := h3 a ha
        have := hn.1 a (List.mem_cons_of_mem _ ha)
        simp only []
        omega) (fun a ha => by
        have := h3 a ha
        have := hn.1 a (List.mem_cons_of_mem _ ha)
        have := hc a (List.mem_cons_of_mem _ ha)
        simp only []
        omega)]
      simp [fuse]
theorem addRaw_is {lo hi : Nat} (h : lo < hi) : ∀ (xs : List Rg), Norm xs → addRaw xs lo hi = addN xs (lo, hi)
  | [], _ => by simp [addRaw, iOf, kOf, fuse, addN]
  | r :: rs, hn => by
    obtain ⟨⟨h1, h2⟩, h3⟩ := hn.head
    by_cases c1 : r.2 < lo
    · have ih := addRaw_is h rs hn.tail
      have hi1 : iOf (r :: rs) lo = iOf rs lo + 1 := by unfold iOf; rw [List.takeWhile_cons_of_pos (by simpa using c1)]; simp
      have hk1 : kOf (r :: rs) (iOf (r :: rs) lo) hi = kOf rs (iOf rs lo) hi + 1 := by rw [hi1]; unfold kOf; simp; omega
      rw [addN, if_pos c1, ← ih]
      unfold addRaw
      rw [hk1, hi1]
      simp
    · have hi0 : iOf (r :: rs) lo = 0 := by unfold iOf; rw [List.takeWhile_cons_of_neg (by simpa using c1)]; rfl
      have := addN_mid hi (r :: rs) (lo, hi) h hn (fun a ha => by
        rcases List.mem_cons.1 ha with rfl | ha
        · simp only []; omega
        · have := h3 a ha
          have := hn.1 a (List.mem_cons_of_mem _ ha)
          simp only []
          omega) (fun a _ => Iff.rfl)
      rw [this]
      unfold addRaw
      rw [hi0]
      unfold kOf
      simp only [List.take_zero, List.nil_append, List.drop_zero, Nat.zero_add]
      congr 2
      exact (List.prefix_iff_eq_take.1 (List.takeWhile_prefix _)).symm
theorem addRaw_addR {xs : List Rg} {lo hi : Nat} (h : lo < hi) (hn : Norm xs) : addR lo hi xs = addRaw xs lo hi := by rw [addR_is h hn, addRaw_is h xs hn]
end Go.Proofs.YtnneoeimgbemfaaGreat

/- DERIVED. Plain laws: what adds, cuts, trims keep; what is in a list behind them. -/
namespace Go.Proofs.YtnneoeimgbemfaaGreat
open Go.RowKit

theorem addN_above (L : Nat) : ∀ (rs : List Rg) (x : Rg), L < x.1 → (∀ r ∈ rs, L < r.1) → ∀ a ∈ addN rs x, L < a.1
  | [], x, hx, _, a, ha => by simp [addN] at ha; subst ha; exact hx
  | r :: rs, x, hx, hr, a, ha => by
    have h1 := hr r (List.mem_cons_self ..)
    have h2 : ∀ r ∈ rs, L < r.1 := fun b hb => hr b (List.mem_cons_of_mem _ hb)
    unfold addN at ha
    split at ha
    · rcases List.mem_cons.1 ha with rfl | ha
      · exact h1
      · exact addN_above L rs x hx h2 a ha
    · split at ha
      · rcases List.mem_cons.1 ha with rfl | ha
        · exact hx
        · exact hr a ha
      · exact addN_above L rs _ (by simp only []; omega) h2 a ha
theorem addN_norm : ∀ (rs : List Rg) (x : Rg), x.1 < x.2 → x.2 ≤ 4611686018427387904 → Norm rs → Norm (addN rs x)
  | [], x, h1, h2, _ => ⟨by intro a ha; simp [addN] at ha; subst ha; exact ⟨h1, h2⟩, by simp [addN]⟩
  | r :: rs, x, h1, h2, hn => by
    obtain ⟨⟨h3, h4⟩, h5⟩ := hn.head
    unfold addN
    split
    · rename_i c
      have ih := addN_norm rs x h1 h2 hn.tail
      refine ⟨?_, List.pairwise_cons.2 ⟨addN_above r.2 rs x c h5, ih.2⟩⟩
      intro a ha
      rcases List.mem_cons.1 ha with rfl | ha
      · exact ⟨h3, h4⟩
      · exact ih.1 a ha
    · split
      · rename_i c1 c2
        refine ⟨?_, List.pairwise_cons.2 ⟨?_, hn.2⟩⟩
        · intro a ha
          rcases List.mem_cons.1 ha with rfl | ha
          · exact ⟨h1, h2⟩
          · exact hn.1 a ha
        · intro a ha
          rcases List.mem_cons.1 ha with rfl | ha
          · exact c2
          · have := h5 a ha
            omega
      · exact addN_norm rs _ (by simp only []; omega) (by simp only []; omega) hn.tail
theorem addN_len : ∀ (rs : List Rg) (x : Rg), (addN rs x).length ≤ rs.length + 1
  | [], x => by simp [addN]
  | r :: rs, x => by
    unfold addN
    split
    · have := addN_len rs x
      simp only [List.length_cons]
      omega
    · split
      · simp
      · have := addN_len rs (min x.1 r.1, max x.2 r.2)
        simp only [List.length_cons]
        omega
theorem Norm.drop {xs : List Rg} (h : Norm xs) (k : Nat) : Norm (xs.drop k) :=
  ⟨fun r hr => h.1 r (List.mem_of_mem_drop hr), h.2.sublist (List.drop_sublist _ _)⟩
theorem trim_norm {xs : List Rg} (most : Int) (h : Norm xs) : Norm (trimL most xs) := h.drop _
theorem trim_len (most : Int) (xs : List Rg) (h : 0 ≤ most) : ((trimL most xs).length : Int) ≤ most ∧ (trimL most xs).length ≤ xs.length := by
  unfold trimL
  rw [List.length_drop]
  omega
theorem cut1_in {lo hi : Nat} {r a : Rg} (hr : r.1 < r.2) (ha : a ∈ cut1 lo hi r) : r.1 ≤ a.1 ∧ a.1 < a.2 ∧ a.2 ≤ r.2 := by
  unfold cut1 at ha
  split at ha
  · simp at ha
    subst ha
    omega
  · rename_i c
    rcases List.mem_append.1 ha with ha | ha
    · split at ha
      · simp at ha
        subst ha
        simp only []
        omega
      · simp at ha
    · split at ha
      · simp at ha
        subst ha
        simp only []
        omega
      · simp at ha
theorem cut1_norm {lo hi : Nat} {r : Rg} (hr : r.1 < r.2 ∧ r.2 ≤ 4611686018427387904) : Norm (cut1 lo hi r) := by
  refine ⟨fun a ha => by have := cut1_in hr.1 ha; omega, ?_⟩
  unfold cut1
  split
  · simp
  · split <;> split <;> simp
    omega
theorem cut_norm (lo hi : Nat) : ∀ xs : List Rg, Norm xs → Norm (cutRaw lo hi xs)
  | [], _ => ⟨by simp [cutRaw], by simp [cutRaw]⟩
  | r :: xs, hn => by
    obtain ⟨h1, h2⟩ := hn.head
    have ih := cut_norm lo hi xs hn.tail
    have hc := cut1_norm (lo := lo) (hi := hi) h1
    have e : cutRaw lo hi (r :: xs) = cut1 lo hi r ++ cutRaw lo hi xs := by simp [cutRaw]
    rw [e]
    refine ⟨?_, List.pairwise_append.2 ⟨hc.2, ih.2, ?_⟩⟩
    · intro a ha
      rcases List.mem_append.1 ha with ha | ha
      · exact hc.1 a ha
      · exact ih.1 a ha
    · intro a ha b hb
      obtain ⟨c, hc1, hc2⟩ := List.mem_flatMap.1 hb
      have := cut1_in h1.1 ha
      have := cut1_in (hn.tail.1 c hc1).1 hc2
      have := h2 c hc1
      omega
end Go.Proofs.YtnneoeimgbemfaaGreat

/- DERIVED. Plain laws: which numbers are in a list behind an add, a cut; how many. -/
namespace Go.Proofs.YtnneoeimgbemfaaGreat
open Go.RowKit

theorem any_addN (n : Nat) : ∀ (rs : List Rg) (x : Rg), x.1 < x.2 → Norm rs → (addN rs x).any (hasP n) = (hasP n x || rs.any (hasP n))
  | [], x, _, _ => by simp [addN]
  | r :: rs, x, hx, hn => by
    obtain ⟨⟨h1, h2⟩, h3⟩ := hn.head
    unfold addN
    split
    · rw [List.any_cons, any_addN n rs x hx hn.tail, List.any_cons]
      cases hasP n r <;> cases hasP n x <;> simp
    · split
      · simp [List.any_cons]
      · rename_i c1 c2
        rw [any_addN n rs _ (by simp only []; omega) hn.tail, List.any_cons]
        have e : hasP n (min x.1 r.1, max x.2 r.2) = (hasP n x || hasP n r) := by
          rw [Bool.eq_iff_iff]
          simp only [hasP, Bool.and_eq_true, decide_eq_true_eq, Bool.or_eq_true]
          omega
        rw [e, Bool.or_assoc]
theorem any_cut1 (n lo hi : Nat) (r : Rg) (_hr : r.1 < r.2) (h : lo < hi) : (cut1 lo hi r).any (hasP n) = (hasP n r && !(hasP n (lo, hi))) := by
  rw [Bool.eq_iff_iff]
  unfold cut1
  repeat' split
  all_goals simp only [List.any_append, List.any_cons, List.any_nil, hasP, Bool.and_eq_true, Bool.or_eq_true, decide_eq_true_eq, Bool.not_eq_true', Bool.and_eq_false_iff, decide_eq_false_iff_not, Bool.or_false, Bool.false_or, Bool.false_eq_true, false_iff, not_and, not_or]
  all_goals first | omega | (intro h1; omega)
theorem any_cut (n lo hi : Nat) (h : lo < hi) : ∀ xs : List Rg, Norm xs → (cutRaw lo hi xs).any (hasP n) = (xs.any (hasP n) && !(hasP n (lo, hi)))
  | [], _ => by simp [cutRaw]
  | r :: xs, hn => by
    have e : cutRaw lo hi (r :: xs) = cut1 lo hi r ++ cutRaw lo hi xs := by simp [cutRaw]
    rw [e, List.any_append, any_cut1 n lo hi r hn.head.1.1 h, any_cut n lo hi h xs hn.tail, List.any_cons]
    cases hasP n r <;> cases xs.any (hasP n) <;> simp
theorem cut_none {lo hi : Nat} (h : hi ≤ lo) (xs : List Rg) : cutRaw lo hi xs = xs := by
  induction xs with
  | nil => simp [cutRaw]
  | cons r xs ih =>
    have e : cutRaw lo hi (r :: xs) = cut1 lo hi r ++ cutRaw lo hi xs := by simp [cutRaw]
    rw [e, ih, cut1, if_pos (.inl h)]
    rfl
theorem trim_all {most : Int} {xs : List Rg} (h : (xs.length : Int) ≤ most) : trimL most xs = xs := by
  unfold trimL
  rw [show xs.length - most.toNat = 0 by omega, List.drop_zero]
end Go.Proofs.YtnneoeimgbemfaaGreat

/- DERIVED. Walk of outbuf's Next, where nothing is lost and the end is not to be sent. -/
namespace Go.Proofs.YtnneoeimgbemfaaGreat
open Go.RowKit

theorem slen_q0 (b : Nat) (og : Option Nat) (w : World) (h : SetAt w b many og []) : Calls Tryz.prog 63 #[.pointer (some ⟨b, 0, none⟩)] w fun e w' => e = .returned (.int .i64 0) ∧ ∃ n, w' = w.drewN n := slen_q b many og [] w h
theorem oend_f (b : Nat) (s : OS) (fp : Nat → Prop) (w : World) (h : OAt w b s fp) (he : s.ende = false) : Calls Tryz.prog 64 #[.pointer (some ⟨b, 0, none⟩)] w fun e w' => e = .returned (.bool false) ∧ ∃ n, w' = w.drewN n := by
  rw [← he]
  exact oend_q b s fp w h
theorem og_le {B n : Nat} {og : Option Nat} (h : ∀ g, og = some g → n ≤ g) (hn : B ≤ n) : ∀ g, og = some g → B ≤ g := fun g e => Nat.le_trans hn (h g e)

set_option maxRecDepth 100000 in
set_option maxHeartbeats 1000000 in
theorem onext_no (b : Nat) (s : OS) (fp : Nat → Prop) (most limit : Nat) (w : World) (h : OAt w b s fp) (hlim : limit < 18446744073709551616) (hll : s.B.length ≤ limit) (hys : s.ys = []) (hs : s.sent = s.B.length) (hend : s.ende = false) (hm : most ≤ 1000000) :
    Calls Tryz.prog 45 #[.pointer (some ⟨b, 0, none⟩), .int .i64 most, .int .u64 limit] w fun e w' => e = .returned (.tuple #[.int .u64 0, .slice none 0 0, .bool false, .bool false]) ∧ Below w.heap.size w w' := by
  have hlen := h.ok.len
  have H := Lib.hid h
  have HY := Lib.hid hys
  have HE := Lib.hid hend
  have HPT := Lib.hid (show max s.sent (min limit s.B.length) = s.sent by omega)
  have HC := Lib.hid (show ∀ W, Below w.heap.size w W → W.cell? ⟨b, 2, none⟩ = some (.int .u64 s.sent) ∧ W.cell? ⟨b, 3, none⟩ = some (.int .u64 s.sent) from fun W hb => by
    obtain ⟨_, c2, c3, _⟩ := (H.out.below hb).cells
    rw [hs] at c3 ⊢
    exact ⟨c2, c3⟩)
  rw [← hs] at hlen
  have HS := Lib.hid hs
  clear h hys hend hs hll
  obtain ⟨sent, hsent⟩ : ∃ sent, s.sent = sent := ⟨_, rfl⟩
  have HSE := Lib.hid hsent
  rw [hsent] at HC hlen HPT
  clear hsent
  go_enter Tryz.func45, Tryz.ntmps45
  go_wp2_with fail
  refine (opart_nil b s fp limit sent _ (by exact H.out) hlim HY.out (by rw [HSE.out]; exact HPT.out)).mono ?_
  rw [HSE.out]
  rintro e w1 ⟨rfl, hb⟩
  have HB := Lib.hid hb
  clear hb
  obtain ⟨vb, ob, c, oc, d, od, hO, hfp⟩ := H.out.below HB.out
  obtain ⟨c2, c3⟩ := HC.out _ HB.out
  have c5 : w1.cell? ⟨b, 5, none⟩ = some (.pointer (some ⟨d, 0, none⟩)) := (cell_at hO.blk 5).trans rfl
  have HO := Lib.hid hO
  clear hO hfp
  have hmm : (sent : Int) ≤ (sent : Int) + (most : Int) := by omega
  go_upto_region 2 with fail
  go_cut [11] (fun v wx => v = .int .u64 sent ∧ wx = w1)
  case first =>
    rcases (by omega : (0 < most) ∨ (most = 0)) with q | q
    · have q' : (sent : Int) < (sent : Int) + (most : Int) := by omega
      have q2 : (0 : Int) < (most : Int) := by omega
      go_wp2_with fail
      go_meet
      case rel => exact ⟨rfl, rfl⟩
    · subst q
      go_wp2_with fail
      go_meet
      case rel => exact ⟨rfl, rfl⟩
  case rest =>
    obtain ⟨rfl, rfl⟩ := hcut
    go_wp2_with fail
    go_quiet (first | (go_at_call 63; exact Calls.quiet_of (slen_q0 d od _ (by rw [← HY.out]; exact HO.out.sy.below (below_drewN (Below.refl _ _) _)))) | (go_at_call 64; exact Calls.quiet_of (oend_f b s _ _ (by exact (H.out.below HB.out).drewN _) HE.out)))
    go_wp2_with fail
    (try simp only [Exit.inBlock, Exit.then])
    refine bodyPost_ret (results_tmp4 rfl _ _ _) rfl ?_
    exact ⟨rfl, below_drewN HB.out _⟩

def OS.sends (s : OS) (t : Nat) : OS := { s with sent := t, ys := [] }
set_option maxRecDepth 100000 in
set_option maxHeartbeats 2000000 in
theorem onext_yes (b : Nat) (s : OS) (fp : Nat → Prop) (most limit t : Nat) (w : World) (h : OAt w b s fp) (hlim : limit < 18446744073709551616) (hll : s.B.length ≤ limit) (hys : s.ys = []) (hbs : s.base ≤ s.sent) (hlt : s.sent < t) (ht : min s.B.length (s.sent + most) = t) (hend : s.ende = false) (hm : most ≤ 1000000) :
    Calls Tryz.prog 45 #[.pointer (some ⟨b, 0, none⟩), .int .i64 most, .int .u64 limit] w
      fun e w' => ∃ v og, e = .returned (.tuple #[.int .u64 s.sent, v, .bool false, .bool true]) ∧ OM w w' fp b (s.sends t) ∧ SlG encB 5 w' v og ((s.B.drop s.sent).take (t - s.sent)) ∧ (∀ g, og = some g → w.heap.size ≤ g) := by
  obtain ⟨i0, hi0, hz0, hz1, hz2'⟩ := info_parts infoB
  have hlen := h.ok.len
  have hbl := h.ok.base
  have H := Lib.hid h
  have HY := Lib.hid hys
  have HE := Lib.hid hend
  obtain ⟨len, hln⟩ : ∃ len, s.B.length = len := ⟨_, rfl⟩
  obtain ⟨sent, hsent⟩ : ∃ sent, s.sent = sent := ⟨_, rfl⟩
  obtain ⟨base, hbase⟩ : ∃ base, s.base = base := ⟨_, rfl⟩
  have HSE := Lib.hid hsent
  have HLE := Lib.hid hln
  have HBA := Lib.hid hbase
  rw [hln] at hlen hbl hll ht
  rw [hsent] at hbs hlt ht
  rw [hbase] at hbs hbl
  have HT := Lib.hid (show (s.sends t).sent = t from rfl)
  rw [hsent]
  clear h hys hend hln hsent hbase
  have htl : t ≤ len := by omega
  have HPT := Lib.hid (show max sent (min limit len) = len by omega)
  have HTL := Lib.hid htl
  go_enter Tryz.func45, Tryz.ntmps45
  go_wp2_with fail
  refine (opart_nil b s fp limit len _ (by exact H.out) hlim HY.out (by rw [HSE.out, HLE.out]; exact HPT.out)).mono ?_
  rw [HSE.out]
  rintro e w1 ⟨rfl, hb⟩
  have HB := Lib.hid hb
  clear hb
  go_upto_region 2 with fail
  go_cut [11] (fun v wx => v = .int .u64 t ∧ wx = w1)
  case first =>
    have q2 : (0 : Int) < (most : Int) := by omega
    rcases (by omega : (sent + most < len ∧ t = sent + most) ∨ (len < sent + most ∧ t = len) ∨ (len = sent + most ∧ t = len)) with ⟨q1, q3⟩ | ⟨q1, q3⟩ | ⟨q1, q3⟩
    · have q4 : (sent : Int) + (most : Int) = (t : Int) := by omega
      have q5 : (t : Int) < (len : Int) := by omega
      clear q3 ht
      go_wp2_with fail
      go_meet
      case rel => exact ⟨rfl, rfl⟩
    · obtain ⟨z, hz, hzt⟩ : ∃ z : Nat, (sent : Int) + (most : Int) = (z : Int) ∧ z < 18446744073709551616 := ⟨sent + most, by omega, by omega⟩
      have q5 : (len : Int) < (z : Int) := by omega
      subst q3
      clear ht
      go_wp2_with fail
      go_meet
      case rel => exact ⟨rfl, rfl⟩
    · have q4 : (sent : Int) + (most : Int) = (t : Int) := by omega
      subst q3
      clear ht q1
      go_wp2_with fail
      go_meet
      case rel => exact ⟨rfl, rfl⟩
  case rest =>
    obtain ⟨rfl, rfl⟩ := hcut
    generalize wc = w1 at *
    have H1 := Lib.hid (H.out.below HB.out)
    obtain ⟨vb, ob, c, oc, d, od, hO, hfp⟩ := H1.out
    obtain ⟨oB, cB, e0, hcB, hcB2⟩ := hO.row.shape
    rw [List.length_drop, HLE.out, HBA.out] at e0 hcB
    obtain ⟨n0, hn0⟩ : ∃ n0, len - base = n0 := ⟨_, rfl⟩
    rw [hn0] at e0 hcB
    subst e0
    have HO := Lib.hid hO
    have HFP := Lib.hid hfp
    have hrv := (hO.row.vw encB_len).below (Below.refl _ _).drew
    obtain ⟨l, hl, hl2⟩ : ∃ l : Nat, (sent : Int) - (base : Int) = (l : Int) ∧ sent - base = l := ⟨sent - base, by omega, rfl⟩
    obtain ⟨hh, hhh, hhh2⟩ : ∃ hh : Nat, (t : Int) - (base : Int) = (hh : Int) ∧ t - base = hh := ⟨t - base, by omega, rfl⟩
    have hlh : l ≤ hh := by omega
    have hhc : hh ≤ cB := by omega
    have hlb : (l : Int) ≤ 1099511627776 := by omega
    have hsb : sent ≤ 1099511627776 := by omega
    have hsti : (sent : Int) < (t : Int) := by omega
    have htb : t ≤ 1099511627776 := by omega
    have hhb : (hh : Int) ≤ 1099511627776 := by omega
    have hwl : IntKind.u64.wrap (l : Int) = l := IntWalk.u64_in _ (by omega)
    have hwh : IntKind.u64.wrap (hh : Int) = hh := IntWalk.u64_in _ (by omega)
    have HP0 := hrv.mid encB_len hlh (show hh ≤ n0 by omega)
    have hpc : ((s.B.drop s.base).drop l).take (hh - l) = (s.B.drop sent).take (t - sent) := by
      rw [List.drop_drop, HBA.out, show base + l = sent by omega, show hh - l = t - sent by omega]
    rw [hpc] at HP0
    have HP := Lib.hid HP0
    have HPL := Lib.hid (show ((s.B.drop sent).take (t - sent)).length ≤ 1000000000 by rw [List.length_take]; omega)
    have hst : ¬ sent = t := by omega
    have HSof := Lib.hid (show ∀ W, Below w1.drew.heap.size w1.drew W → W.cell? ⟨b, 0, none⟩ = some (.slice oB n0 cB) ∧ W.cell? ⟨b, 1, none⟩ = some (.int .u64 base) from fun W h => by
      have hk := below_keeps h (show w1.drew.heap[b]? = _ from HO.out.blk) (heap_lt HO.out.blk)
      refine ⟨(cell_at hk 0).trans rfl, ?_⟩
      rw [cell_at hk, ← HBA.out]
      rfl)
    clear hO hfp hrv HP0 hpc hl2 hhh2 hn0 ht htl hlt
    go_upto_region 8 with fail
    go_cut [12] (fun v wx => ∃ og, Below w1.drew.heap.size w1.drew wx ∧ SlG encB 5 wx v og ((s.B.drop sent).take (t - sent)) ∧ ∀ g, og = some g → w1.drew.heap.size ≤ g)
    case first =>
      go_wp2_with fail
      have hb : Below w1.drew.heap.size w1.drew w1.drew := Below.refl _ _
      refine wp_region_till (S := fun w' => w'.cell? ⟨b, 0, none⟩ = some (.slice oB n0 cB) ∧ w'.cell? ⟨b, 1, none⟩ = some (.int .u64 base)) [] (by kernel_rfl) (by exact HSof.out _ hb) (fun hHeld => ?_)
      refine wpTill_take0 (i := 0) (oi := ⟨some 62, _, _, _, _, _⟩) (v := ?_) rfl (by kernel_rfl) (fun _ _ _ h => h) (Or.inl ⟨by rfl, ?_⟩) (fun _ => hHeld) ?_
      rotate_left
      · intro w hSw
        (try dsimp only at hSw)
        go_simp
        try with_reducible rfl
      try simp only [Act.put, List.setIfInBounds_toArray, List.set_cons_zero, List.set_cons_succ]
      refine wpTill_take0 (i := 1) (oi := ⟨some 63, _, _, _, _, _⟩) (v := ?_) rfl (by kernel_rfl) (fun _ _ _ h => h) (Or.inl ⟨by rfl, ?_⟩) (fun _ => hHeld) ?_
      rotate_left
      · intro w hSw
        (try dsimp only at hSw)
        go_simp
        try with_reducible rfl
      try simp only [Act.put, List.setIfInBounds_toArray, List.set_cons_zero, List.set_cons_succ]
      refine wpTill_take0 (i := 2) (oi := ⟨some 64, _, _, _, _, _⟩) (v := ?_) rfl (by kernel_rfl) (fun _ _ _ h => h) (Or.inl ⟨by rfl, ?_⟩) (fun _ => hHeld) ?_
      rotate_left
      · intro w hSw
        (try dsimp only at hSw)
        go_simp
        try with_reducible rfl
      try simp only [Act.put, List.setIfInBounds_toArray, List.set_cons_zero, List.set_cons_succ]
      refine wpTill_take (i := 3) (oi := ⟨some 65, _, _, _, _, _⟩) (v := ?_) rfl (by kernel_rfl) (fun _ _ _ h => h) (Or.inl ⟨by rfl, ?_⟩) (by exact hHeld) ?_
      rotate_left
      · intro w hSw
        (try dsimp only at hSw)
        go_simp
        try with_reducible rfl
      try simp only [Act.put, List.setIfInBounds_toArray, List.set_cons_zero, List.set_cons_succ]
      refine wpTill_take0 (i := 4) (oi := ⟨some 66, _, _, _, _, _⟩) (v := ?_) rfl (by kernel_rfl) (fun _ _ _ h => h) (Or.inl ⟨by rfl, ?_⟩) (fun _ => hHeld) ?_
      rotate_left
      · intro w hSw
        (try dsimp only at hSw)
        go_simp
        try with_reducible rfl
      try simp only [Act.put, List.setIfInBounds_toArray, List.set_cons_zero, List.set_cons_succ]
      refine wpTill_take0 (i := 5) (oi := ⟨some 67, _, _, _, _, _⟩) (v := ?_) rfl (by kernel_rfl) (fun _ _ _ h => h) (Or.inl ⟨by rfl, ?_⟩) (fun _ => hHeld) ?_
      rotate_left
      · intro w hSw
        (try dsimp only at hSw)
        go_simp
        try with_reducible rfl
      try simp only [Act.put, List.setIfInBounds_toArray, List.set_cons_zero, List.set_cons_succ]
      refine wpTill_take0 (i := 6) (oi := ⟨some 68, _, _, _, _, _⟩) (v := ?_) rfl (by kernel_rfl) (fun _ _ _ h => h) (Or.inl ⟨by rfl, ?_⟩) (fun _ => hHeld) ?_
      rotate_left
      · intro w hSw
        (try dsimp only at hSw)
        go_simp
        try with_reducible rfl
      try simp only [Act.put, List.setIfInBounds_toArray, List.set_cons_zero, List.set_cons_succ]
      refine wpTill_take0 (i := 7) (oi := ⟨some 69, _, _, _, _, _⟩) (v := ?_) rfl (by kernel_rfl) (fun _ _ _ h => h) (Or.inl ⟨by rfl, ?_⟩) (fun _ => hHeld) ?_
      rotate_left
      · intro w hSw
        (try dsimp only at hSw)
        go_simp
        try with_reducible rfl
      try simp only [Act.put, List.setIfInBounds_toArray, List.set_cons_zero, List.set_cons_succ]
      refine wpTill_take (i := 8) (oi := ⟨some 70, _, _, _, _, _⟩) (v := ?_) rfl (by kernel_rfl) (fun _ _ _ h => h) (Or.inl ⟨by rfl, ?_⟩) (by exact hHeld) ?_
      rotate_left
      · intro w hSw
        (try dsimp only at hSw)
        go_simp
        try with_reducible rfl
      try simp only [Act.put, List.setIfInBounds_toArray, List.set_cons_zero, List.set_cons_succ]
      refine wpTill_take0 (i := 9) (oi := ⟨some 71, _, _, _, _, _⟩) (v := ?_) rfl (by kernel_rfl) (fun _ _ _ h => h) (Or.inl ⟨by rfl, ?_⟩) (fun _ => hHeld) ?_
      rotate_left
      · intro w hSw
        (try dsimp only at hSw)
        go_simp
        try with_reducible rfl
      try simp only [Act.put, List.setIfInBounds_toArray, List.set_cons_zero, List.set_cons_succ]
      refine wpTill_take0 (i := 10) (oi := ⟨some 72, _, _, _, _, _⟩) (v := ?_) rfl (by kernel_rfl) (fun _ _ _ h => h) (Or.inl ⟨by rfl, ?_⟩) (fun _ => hHeld) ?_
      rotate_left
      · intro w hSw
        (try dsimp only at hSw)
        go_simp
        try with_reducible rfl
      try simp only [Act.put, List.setIfInBounds_toArray, List.set_cons_zero, List.set_cons_succ]
      refine wpTill_take0 (i := 11) (oi := ⟨some 73, _, _, _, _, _⟩) (v := ?_) rfl (by kernel_rfl) (fun _ _ _ h => h) (Or.inl ⟨by rfl, ?_⟩) (fun _ => hHeld) ?_
      rotate_left
      · intro w hSw
        (try dsimp only at hSw)
        go_simp
        try with_reducible rfl
      try simp only [Act.put, List.setIfInBounds_toArray, List.set_cons_zero, List.set_cons_succ]
      refine wpTill_take0 (i := 12) (oi := ⟨some 74, _, _, _, _, _⟩) (v := ?_) rfl (by kernel_rfl) (fun _ _ _ h => h) (Or.inl ⟨by rfl, ?_⟩) (fun _ => hHeld) ?_
      rotate_left
      · intro w hSw
        (try dsimp only at hSw)
        go_simp
        try with_reducible rfl
      try simp only [Act.put, List.setIfInBounds_toArray, List.set_cons_zero, List.set_cons_succ]
      refine wpTill_take0 (i := 13) (oi := ⟨some 75, _, _, _, _, _⟩) (v := ?_) rfl (by kernel_rfl) (fun _ _ _ h => h) (Or.inl ⟨by rfl, ?_⟩) (fun _ => hHeld) ?_
      rotate_left
      · intro w hSw
        (try dsimp only at hSw)
        go_simp
        try with_reducible rfl
      try simp only [Act.put, List.setIfInBounds_toArray, List.set_cons_zero, List.set_cons_succ]
      refine wpTill_take (i := 14) (oi := ⟨some 76, _, _, _, _, _⟩) (v := ?_) rfl (by kernel_rfl) (fun _ _ _ h => h) (Or.inl ⟨by rfl, ?_⟩) (by exact hHeld) ?_
      rotate_left
      · intro w hSw
        (try dsimp only at hSw)
        go_simp
        try with_reducible rfl
      try simp only [Act.put, List.setIfInBounds_toArray, List.set_cons_zero, List.set_cons_succ]
      refine wpTill_take0 (i := 15) (oi := ⟨some 77, _, _, _, _, _⟩) (v := ?_) rfl (by kernel_rfl) (fun _ _ _ h => h) (Or.inl ⟨by rfl, ?_⟩) (fun _ => hHeld) ?_
      rotate_left
      · intro w hSw
        (try dsimp only at hSw)
        go_simp
        try with_reducible rfl
      try simp only [Act.put, List.setIfInBounds_toArray, List.set_cons_zero, List.set_cons_succ]
      refine wpTill_take0 (i := 16) (oi := ⟨some 78, _, _, _, _, _⟩) (v := partV oB 1 cB l hh) rfl (by kernel_rfl) (fun _ _ _ h => h) (Or.inl ⟨by rfl, ?_⟩) (fun _ => hHeld) ?_
      · intro w hSw
        refine Eq.trans (exec_part Tryz.underlying31 hi0 rfl rfl rfl rfl hlh hhc) ?_
        rw [hz1]
      try simp only [Act.put, List.setIfInBounds_toArray, List.set_cons_zero, List.set_cons_succ]
      refine wpTill_ready (rs := [17]) (by kernel_rfl) (by simp) ?_
      refine AllTill.cons (o := ⟨some 79, _, _, _, _, _⟩) rfl (fun K hK => ?_) AllTill.nil
      go_simp
      go_at_call 65
      refine (cloneB_any _ _ _ (by exact HP.out.below hb) (by exact hb.size) HPL.out).mono ?_
      rintro e W17 ⟨v12, og12, rfl, hs12, hg12, hx12⟩
      have hb := below_call hb hb.size hx12
      go_wp2_with fail
      refine hK.out _ _ (by exact HSof.out _ hb) (fun hHeld => ?_)
      clear hK K
      try simp only [Act.put, List.setIfInBounds_toArray, List.set_cons_zero, List.set_cons_succ]
      refine wpTill_ready (rs := [18]) (by kernel_rfl) (by simp) ?_
      refine AllTill.cons (o := ⟨some 12, _, _, _, _, _⟩) rfl (fun K hK => ?_) AllTill.nil
      go_simp
      refine hK.out _ _ (by exact HSof.out _ hb) (fun hHeld => ?_)
      clear hK K
      try simp only [Act.put, List.setIfInBounds_toArray, List.set_cons_zero, List.set_cons_succ]
      refine wpTill_done (by kernel_rfl) ?_ _
      go_wp2_with fail
      go_meet
      case rel => exact ⟨og12, hb, hs12, og_le hg12 (Nat.le_refl _)⟩
    case rest =>
      obtain ⟨og, hb2, hsv, hgv⟩ := hcut
      have HSV := Lib.hid hsv
      have HGV := Lib.hid (og_le hgv HB.out.size)
      have HB2 := Lib.hid (show Below w1.heap.size w1 wc from below_call (Below.refl _ _).drew (Nat.le_refl _) hb2)
      generalize wc = w2 at *
      have HO2 := Lib.hid (HO.out.below HB2.out)
      have HW2 := Lib.hid (show Went fp (OFp b c d ob oc od) w w2 from by
        rw [← HFP.out]
        exact (Went.first HB.out (Went.refl fp w1)).later HB2.out)
      have HGV2 := Lib.hid (show ∀ g, og = some g → w1.heap.size ≤ g from hgv)
      have HOL := Lib.hid HO.out.lt
      have c5 : w2.cell? ⟨b, 5, none⟩ = some (.pointer (some ⟨d, 0, none⟩)) := (cell_at HO2.out.blk 5).trans rfl
      clear hb2 hsv hgv HO HB2 HSof HP hl hhh
      go_wp2_with fail
      refine (cut_any d many od s.ys sent t _ (by exact HO2.out.sy) (by decide) (by decide) (by omega) (by omega) HO2.out.ok.ny (by rw [HY.out]; simp)).mono ?_
      rw [HY.out]
      rintro e w3 ⟨rfl, ht3⟩
      have hu3 : Upd (OFp b c d ob oc od) w2 w3 := by
        obtain ⟨_, _, _, hu⟩ := ht3
        exact hu.mono (fun j _ q => by
          rcases q with rfl | q
          · exact .inr (.inr (.inl rfl))
          · exact .inr (.inr (.inr (.inr (.inr q)))))
      have HSV3 := Lib.hid (HSV.out.keeps hu3 (fun g hg q => by have := HGV2.out g hg; have := HOL.out g q; omega))
      have hm3 := om_turnD HO2.out HW2.out ht3 (show Norm (trimL many (cutRaw sent t [])) from ⟨by simp [trimL, cutRaw], by simp [trimL, cutRaw]⟩) (by simp [trimL, cutRaw])
      rw [show trimL many (cutRaw sent t []) = [] by simp [trimL, cutRaw]] at hm3
      obtain ⟨fp3, hoa3, hw3⟩ := hm3
      obtain ⟨vb3, ob3, c3', oc3, d3, od3, hO3, hfp3⟩ := hoa3
      rw [hfp3] at hw3
      have e2 : w3.cell? ⟨b, 2, none⟩ = some (.int .u64 len) := by rw [cell_at hO3.blk, ← HLE.out]; rfl
      have e3 : w3.cell? ⟨b, 3, none⟩ = some (.int .u64 sent) := by rw [cell_at hO3.blk, ← HSE.out]; rfl
      have f3 := free_at hO3.blk 3
      have hok3 := hO3.ok
      have hm4 : OM w (w3.setCell ⟨b, 3, none⟩ (.int .u64 t)) fp b (s.sends t) := om_set (s' := s.sends t) hO3 hw3 (Upd.refl _ _) ((Upd.refl (fun j => j = b) w3).setCell ⟨b, 3, none⟩ (.inl rfl) _) (set_at hO3.blk 3 _) hO3.row (.inl rfl) rfl rfl
        ⟨hok3.len, hok3.base, by show t ≤ s.B.length; rw [HLE.out]; exact HTL.out, hok3.nx, hok3.ny, hok3.lx, hok3.ly, hok3.bys⟩
      have hbn : og ≠ some b := fun q => by have := HGV2.out b q; have := HOL.out b (.inl rfl); omega
      have HSV4 := Lib.hid (HSV3.out.keeps ((Upd.refl (fun j => j = b) w3).setCell ⟨b, 3, none⟩ (.inl rfl) (.int .u64 t)) (fun g hg q => hbn (by rw [hg, q])))
      have HM4 := Lib.hid hm4
      clear ht3 hu3 hw3 hO3 hfp3 hok3 hm4 HSV HSV3 HO2 HW2 hbn c5
      by_cases htl2 : t = len
      · subst htl2
        go_wp2_with fail
        obtain ⟨fp4, hoa4, _⟩ := HM4.out
        refine (oend_f b _ fp4 _ (by exact hoa4) (by exact HE.out)).mono ?_
        rintro e w5 ⟨rfl, q, rfl⟩
        go_wp2_with fail
        (try simp only [Exit.inBlock, Exit.then])
        refine bodyPost_ret (results_tmp4 rfl _ _ _) rfl ?_
        exact ⟨_, og, rfl, HM4.out.drewN q, HSV4.out.drewN q, HGV.out⟩
      · have htl3 : ¬ (t : Int) = len := by omega
        go_wp2_with fail
        (try simp only [Exit.inBlock, Exit.then])
        refine bodyPost_ret (results_tmp4 rfl _ _ _) rfl ?_
        exact ⟨_, og, rfl, HM4.out, HSV4.out, HGV.out⟩
end Go.Proofs.YtnneoeimgbemfaaGreat
