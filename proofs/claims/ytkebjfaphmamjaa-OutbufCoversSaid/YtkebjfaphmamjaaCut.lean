/- DERIVED. Cut of a set of ranges. -/
import Derived.Test.YtkebjfaphmamjaaSet
import Derived.Laws.ResultCell
import Derived.Deep.RegionWith
import Derived.Deep.CutBlock
import Derived.Deep.DeepCutAuto
import Derived.Test.YtkebjfaphmamjaaPush
namespace Go.Proofs.Ytkebjfaphmamjaa
open Go.RowKit

/-- The worlds of Cut's loop: the new list so far. -/
structure CutSt (w0 : World) (ys : List Rg) (v : Value) (og : Option Nat) (w : World) : Prop where
  sl : Sl w v og ys
  new : ∀ g, og = some g → w0.heap.size ≤ g
  below : Below w0.heap.size w0 w
theorem CutSt.size {w0 : World} {ys : List Rg} {v : Value} {og : Option Nat} {w : World} (h : CutSt w0 ys v og w) : w0.heap.size ≤ w.heap.size := h.below.size
theorem CutSt.alloc {w0 : World} {ys : List Rg} {v : Value} {og : Option Nat} {w : World} (h : CutSt w0 ys v og w) (o : Obj) : CutSt w0 ys v og (w.alloc o) :=
  ⟨h.sl.below ((Below.refl _ _).alloc (Nat.le_refl _) _), h.new, h.below.alloc h.size _⟩

/-- append(out, one range). -/
theorem cut_push {w0 w : World} {ys : List Rg} {v : Value} {og : Option Nat} (h : CutSt w0 ys v og w) {i0 : TypeInfo} (hi : Try.prog.info? 59 = some i0) (hz0 : i0.zero = some (.agg #[.int .u64 0, .int .u64 0])) (hz1 : i0.size = 2) (hz2 : i0.bytes = 16)
    {ops : Array Oper} {rest : List Oper} {o : Oper} {a : Act} {Q : Exit → Act → World → Prop} (hgd : o.guard = none) (d s : Operand)
    (ho : o.op = .call { callee := .builtin .append, args := #[d, s], argTypes := #[64, 64] }) {h' : Nat} {r : Rg} {E' : TypeId} (hs : Row encR w E' h' [r])
    (hd : a.eval d = v) {c : Nat} (hsv : a.eval s = .slice (some ⟨h', 0, none⟩) 1 c) (hb : ys.length * 16 + 16 ≤ 140737488355328)
    (hK : ∀ W v' og', CutSt w0 (ys ++ [r]) v' og' W → (og' = og ∨ ∃ g, og' = some g ∧ w.heap.size ≤ g) → Upd (fun j => og = some j) w W → wpList Try.prog ops Q rest (a.put o.dst v') W) : wpList Try.prog ops Q (o :: rest) a w := by
  obtain ⟨h1, h2, h3⟩ := h
  refine wpList_push encR_len encR_one Try.underlying64 hi hz1 hz0 zeroR hgd d s ho (show SlG encR 59 w v og ys from h1) hs hd hsv rfl (by rw [hz2]; omega) (by omega) ?_
  intro W v' og' hS ho' hU hsz
  refine hK W v' og' ⟨hS, ?_, ?_⟩ ho' hU
  · rcases ho' with rfl | ⟨g, rfl, hg⟩
    · exact h2
    · intro g' e
      cases e
      exact Nat.le_trans h3.size hg
  · exact Upd.onto h3 hU h3.size (fun j hj e => by have := h2 j e; omega)

theorem CutSt.store {w0 : World} {ys : List Rg} {v u : Value} {og : Option Nat} {w : World} (h : CutSt w0 ys v og w) {b : Nat} {most : Int} (hb : w0.heap[b]? = some (.cells #[.int .i64 most, u] 67 (0, 0))) :
    SetIs (w.setCell ⟨b, 1, none⟩ v) b most v og ys ∧ Upd (fun j => j = b) w0 (w.setCell ⟨b, 1, none⟩ v) := by
  have hbl := heap_lt hb
  have hoo : og ≠ some b := fun e => by have := h.new _ e; omega
  refine ⟨⟨set_store (below_keeps h.below hb hbl) v, h.sl.keeps (F := fun j => j = b) (Upd.setCell (Upd.refl (fun j => j = b) w) ⟨b, 1, none⟩ (.inl rfl) _) (fun j hj e => hoo (by rw [hj, e])), hoo⟩, ?_⟩
  exact Upd.setCell (F := fun j => j = b) ((Upd.below h.below).mono (fun i hi x => by omega)) ⟨b, 1, none⟩ (.inl rfl) _

theorem row_two (w : World) (o : Obj) (r : Rg) : Row encR ((w.alloc o).alloc (.cells #[.int .u64 r.1, .int .u64 r.2] 59)) 59 (w.heap.size + 1) [r] := by
  have := alloc_at (w.alloc o) (.cells #[.int .u64 r.1, .int .u64 r.2] 59)
  rw [show (w.alloc o).heap.size = w.heap.size + 1 by simp] at this
  exact this

set_option maxRecDepth 100000 in
set_option maxHeartbeats 4000000 in
theorem cut_any (b : Nat) (most : Int) (og : Option Nat) (xs : List Rg) (lo hi : Nat) (w : World) (h : SetAt w b most og xs) (hm : 1 ≤ most) (hm2 : most ≤ 9223372036854775807) (_hlo : lo < 18446744073709551616) (_hhi : hi < 18446744073709551616) (hx : Norm xs) (hl : xs.length * 32 + 64 ≤ 140737488355328) :
    Calls Try.prog 26 #[.pointer (some ⟨b, 0, none⟩), .int .u64 lo, .int .u64 hi] w fun e w' => e = .returned (.tuple #[]) ∧ Turned w b most og (trimL most (cutRaw lo hi xs)) w' := by
  obtain ⟨i0, hi0, hz0, hz1, hz2⟩ := info_parts infoR
  obtain ⟨v, hb, hs, hne⟩ := h
  have c1 := cell_at hb 1
  simp at c1
  obtain ⟨oa, cap, rfl, hcap, hcap2⟩ := hs.shape
  have HSET := Lib.hid hb
  have HS := Lib.hid hs
  have HX := Lib.hid hx
  clear hb hs hx
  generalize hn : xs.length = len at *
  have HN := Lib.hid hn
  clear hn
  have hlen : ∀ k, k ≤ len → (cutRaw lo hi (xs.take k)).length ≤ 2 * k := fun k hk => Nat.le_trans (cutRaw_len lo hi _) (by rw [List.length_take]; omega)
  have HLEN := Lib.hid hlen
  clear hlen
  go_enter Try.func26, Try.ntmps26
  go_wp2_with fail
  clear c1
  go_loopw [6, 14] (fun ov i wr => ∃ (k : Nat) (vo : Value) (oo : Option Nat), i = .int .i64 k ∧ k ≤ len ∧ vo = ov ∧ CutSt w (cutRaw lo hi (xs.take k)) vo oo wr) (fun _ i _ => len - (intOf i).toNat)
  case atStart => exact ⟨0, _, none, rfl, by omega, rfl, ⟨Sl.nil _, by simp, Below.refl _ _⟩⟩
  case round =>
    obtain ⟨k, vo, oo, rfl, hk, rfl, hst⟩ := hrel
    have HST := Lib.hid hst
    clear hst
    by_cases hlt : k < len
    · obtain ⟨r, hr⟩ : ∃ r, xs[k]? = some r := ⟨_, List.getElem?_eq_getElem (by rw [HN.out]; exact hlt)⟩
      obtain ⟨hr1, hr2⟩ := HX.out.at hr
      obtain ⟨g, hog, rfl, hgl, c0, c1⟩ := HS.out.atS hr
      have d0 := (HST.out.below.cell (p := ⟨g, k * 2, none⟩) hgl).trans c0
      have d1 := (HST.out.below.cell (p := ⟨g, k * 2 + 1, none⟩) hgl).trans c1
      have HT := Lib.hid (cutRaw_take (lo := lo) (hi := hi) hr)
      have hlen := HLEN.out k hk
      clear c0 c1 hog hr
      generalize cutRaw lo hi (xs.take k) = ys at *
      generalize hnx : cutRaw lo hi (xs.take (k + 1)) = nxt at *
      have HNX := Lib.hid hnx
      clear hnx
      by_cases hkeep : hi ≤ lo ∨ r.2 ≤ lo ∨ hi ≤ r.1
      · have hc1 : cut1 lo hi r = [r] := by rw [cut1, if_pos hkeep]
        have HC1 := Lib.hid hc1
        clear hc1
        rcases (show hi ≤ lo ∨ (¬ hi ≤ lo ∧ r.2 ≤ lo) ∨ (¬ hi ≤ lo ∧ ¬ r.2 ≤ lo ∧ hi ≤ r.1) by omega) with h1 | ⟨h1, h2⟩ | ⟨h1, h2, h3⟩
        all_goals
          clear hkeep
          go_wp2_with (refine cut_push (by exact (HST.out.alloc _).alloc _) hi0 hz0 hz1 hz2 rfl (.tmp 33) (.tmp 35) rfl (r := r) (by exact row_two _ _ r) rfl rfl ?c1 ?_)
          case c1 => omega
          intro W1 v1 o1 hS1 ho1 hU1
          have HS1 := Lib.hid hS1
          clear hS1 ho1 hU1 HST
          go_wp2
          go_roundw
          case rel => exact ⟨k + 1, _, o1, by go_num, by omega, rfl, by rw [HNX.out, HT.out, HC1.out]; exact HS1.out⟩
          case measure => simp [intOf]; omega
      · have hc1 : cut1 lo hi r = (if r.1 < lo then [(r.1, lo)] else []) ++ (if hi < r.2 then [(hi, r.2)] else []) := by rw [cut1, if_neg hkeep]
        have HC1 := Lib.hid hc1
        obtain ⟨h1, h2, h3⟩ : ¬ hi ≤ lo ∧ ¬ r.2 ≤ lo ∧ ¬ hi ≤ r.1 := ⟨by omega, by omega, by omega⟩
        clear hc1 hkeep
        have HR := Lib.hid (alloc_at wr (.cells #[.int .u64 r.1, .int .u64 r.2] 59))
        have HLT := Lib.hid (show ∀ j, oo = some j → j < wr.heap.size from HST.out.sl.lt)
        by_cases h4 : r.1 < lo
        · go_wp2_with (refine cut_push (by exact (HST.out.alloc _).alloc _) hi0 hz0 hz1 hz2 rfl (.tmp 41) (.tmp 46) rfl (r := (r.1, lo)) (by exact row_two _ _ (r.1, lo)) rfl rfl ?c1 ?_)
          case c1 => omega
          intro W1 v1 o1 hS1 ho1 hU1
          have HS1 := Lib.hid hS1
          have hR1 := hU1.keeps (alloc_old (o := .cells #[.int .u64 r.1, .int .u64 lo] 59) HR.out) (by intro e; have := HLT.out _ e; omega)
          have e0 := cell_at hR1 0
          have e1 := cell_at hR1 1
          simp at e0 e1
          clear hS1 ho1 hU1 HST hR1 d0 d1 HR
          by_cases h5 : hi < r.2
          · go_wp2_with (refine cut_push (by exact HS1.out.alloc _) hi0 hz0 hz1 hz2 rfl (.tmp 52) (.tmp 57) rfl (r := (hi, r.2)) (by exact alloc_at _ _) rfl rfl ?c1 ?_)
            case c1 => simp only [List.length_append, List.length_cons, List.length_nil]; omega
            intro W2 v2 o2 hS2 ho2 hU2
            have HS2 := Lib.hid hS2
            clear hS2 ho2 hU2 HS1
            go_wp2
            go_roundw
            case rel => exact ⟨k + 1, _, o2, by go_num, by omega, rfl, by rw [HNX.out, HT.out, HC1.out, if_pos h4, if_pos h5]; simpa using HS2.out⟩
            case measure => simp [intOf]; omega
          · go_wp2
            go_roundw
            case rel => exact ⟨k + 1, _, o1, by go_num, by omega, rfl, by rw [HNX.out, HT.out, HC1.out, if_pos h4, if_neg h5]; simpa using HS1.out⟩
            case measure => simp [intOf]; omega
        · by_cases h5 : hi < r.2
          · go_wp2_with (refine cut_push (by exact (HST.out.alloc _).alloc _) hi0 hz0 hz1 hz2 rfl (.tmp 52) (.tmp 57) rfl (r := (hi, r.2)) (by exact row_two _ _ (hi, r.2)) rfl rfl ?c1 ?_)
            case c1 => omega
            intro W1 v1 o1 hS1 ho1 hU1
            have HS1 := Lib.hid hS1
            clear hS1 ho1 hU1 HST
            go_wp2
            go_roundw
            case rel => exact ⟨k + 1, _, o1, by go_num, by omega, rfl, by rw [HNX.out, HT.out, HC1.out, if_neg h4, if_pos h5]; simpa using HS1.out⟩
            case measure => simp [intOf]; omega
          · go_wp2
            go_roundw
            case rel => exact ⟨k + 1, _, oo, by go_num, by omega, rfl, by rw [HNX.out, HT.out, HC1.out, if_neg h4, if_neg h5]; simpa using HST.out.alloc _⟩
            case measure => simp [intOf]; omega
    · have hbl : b < w.heap.size := heap_lt HSET.out
      have hbw := below_keeps HST.out.below HSET.out hbl
      have fb := free_at hbw 1
      have cb := cell_at hbw 1
      simp at cb
      have hfin : cutRaw lo hi (xs.take k) = cutRaw lo hi xs := by rw [List.take_of_length_le (by rw [HN.out]; omega)]
      rw [hfin] at HST
      obtain ⟨oa2, cap2, rfl, hq1, hq2⟩ := HST.out.sl.shape
      have HSA := Lib.hid (HST.out.store HSET.out).1
      have HU := Lib.hid (HST.out.store HSET.out).2
      have HNEW := Lib.hid (show ∀ g, oo = some g → w.heap.size ≤ g from HST.out.new)
      have HSZ := Lib.hid HU.out.size
      clear hbw hfin
      go_wp2_with fail
      refine (trim_any b most oo (cutRaw lo hi xs) _ ⟨_, by exact HSA.out⟩ hm hm2).mono ?_
      rintro e w' ⟨rfl, ht⟩
      have HT := Lib.hid ht
      clear ht
      go_wp2
      refine bodyPost_end (results_none rfl _ _ _) rfl ?_
      refine ⟨rfl, ?_⟩
      obtain ⟨o2, h1, h2, h3⟩ := HT.out
      refine ⟨o2, h1, ?_, ?_⟩
      · rcases h2 with rfl | rfl | ⟨g, rfl, hg⟩
        · cases o2 with
          | none => exact .inr (.inl rfl)
          | some g => exact .inr (.inr ⟨g, rfl, HNEW.out g rfl⟩)
        · exact .inr (.inl rfl)
        · exact .inr (.inr ⟨g, rfl, Nat.le_trans HSZ.out hg⟩)
      · refine HU.out.trans h3 (fun i _ x => .inl x) (fun i hi x => ?_)
        rcases x with rfl | x
        · exact .inl rfl
        · have := HNEW.out i x
          omega
end Go.Proofs.Ytkebjfaphmamjaa
