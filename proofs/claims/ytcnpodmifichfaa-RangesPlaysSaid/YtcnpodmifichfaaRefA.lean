/- DERIVED. The reference's Add. -/
import Derived.Test.YtcnpodmifichfaaRefC
namespace Go.Proofs.Ytcnpodmifichfaa
open Go.RowKit

structure Ra where
  out : List Rg
  x : Rg
  done : Bool
def Ra.step (s : Ra) (r : Rg) : Ra :=
  if r.2 < s.x.1 then ⟨s.out ++ [r], s.x, s.done⟩
  else if s.x.2 < r.1 then ⟨(if s.done then s.out else s.out ++ [s.x]) ++ [r], s.x, true⟩
  else ⟨s.out, (min s.x.1 r.1, max s.x.2 r.2), s.done⟩
def raOf (lo hi : Nat) (xs : List Rg) : Ra := xs.foldl Ra.step ⟨[], (lo, hi), false⟩
def addR (lo hi : Nat) (xs : List Rg) : List Rg := if (raOf lo hi xs).done then (raOf lo hi xs).out else (raOf lo hi xs).out ++ [(raOf lo hi xs).x]

theorem raOf_take {lo hi : Nat} {xs : List Rg} {k : Nat} {r : Rg} (h : xs[k]? = some r) : raOf lo hi (xs.take (k + 1)) = (raOf lo hi (xs.take k)).step r := by
  rw [raOf, List.take_add_one, h]
  simp [raOf]
theorem Ra.step_len (s : Ra) (r : Rg) : (s.step r).out.length ≤ s.out.length + 2 := by
  unfold Ra.step
  repeat' split
  all_goals simp
theorem raOf_len (lo hi : Nat) : ∀ xs : List Rg, (raOf lo hi xs).out.length ≤ 2 * xs.length := by
  have h : ∀ (xs : List Rg) (s : Ra), (xs.foldl Ra.step s).out.length ≤ s.out.length + 2 * xs.length := by
    intro xs
    induction xs with
    | nil => intro s; simp
    | cons r xs ih =>
      intro s
      have h1 := ih (s.step r)
      have h2 := s.step_len r
      simp only [List.foldl_cons, List.length_cons]
      omega
  intro xs
  have := h xs ⟨[], (lo, hi), false⟩
  simpa [raOf] using this

/-- The worlds of Add's loop. -/
structure RaSt (w0 : World) (s : Ra) (v : Value) (og : Option Nat) (c : Nat) (w : World) : Prop where
  cut : CutSt w0 s.out v og w
  cur : w.heap[c]? = some (.cells #[.int .u64 s.x.1, .int .u64 s.x.2] 34 (0, 0))
  apart : og ≠ some c
theorem RaSt.drewN {w0 : World} {s : Ra} {v : Value} {og : Option Nat} {c : Nat} {w : World} (h : RaSt w0 s v og c w) (n : Nat) : RaSt w0 s v og c (w.drewN n) :=
  ⟨h.cut.drewN n, h.cur, h.apart⟩
theorem RaSt.drew {w0 : World} {s : Ra} {v : Value} {og : Option Nat} {c : Nat} {w : World} (h : RaSt w0 s v og c w) : RaSt w0 s v og c w.drew :=
  ⟨⟨h.cut.sl, h.cut.new, h.cut.below.drew⟩, h.cur, h.apart⟩
theorem RaSt.put {w0 : World} {s : Ra} {v : Value} {og : Option Nat} {c : Nat} {w : World} (h : RaSt w0 s v og c w) (hc : w0.heap.size ≤ c) (x : Rg) :
    RaSt w0 ⟨s.out, x, s.done⟩ v og c ((w.setCell ⟨c, 0, none⟩ (.int .u64 x.1)).setCell ⟨c, 1, none⟩ (.int .u64 x.2)) := by
  have hu : Upd (fun j => j = c) w ((w.setCell ⟨c, 0, none⟩ (.int .u64 x.1)).setCell ⟨c, 1, none⟩ (.int .u64 x.2)) :=
    Upd.setCell (Upd.setCell (Upd.refl (fun j => j = c) w) ⟨c, 0, none⟩ (.inl rfl) _) ⟨c, 1, none⟩ (.inl rfl) _
  refine ⟨⟨h.cut.sl.keeps hu (fun g hg e => h.apart (by rw [hg, e])), h.cut.new, Upd.onto h.cut.below hu h.cut.size (fun j hj e => by omega)⟩, ?_, h.apart⟩
  rw [set_at (set_at h.cur 0 _) 1 _]
  rfl

theorem RaSt.pushed {w0 : World} {s : Ra} {v : Value} {og : Option Nat} {c : Nat} {w wx W : World} (h : RaSt w0 s v og c w) {o : Obj} (hx : wx = w.alloc o) {ys : List Rg} {v1 : Value} {o1 : Option Nat} (hS : CutSt w0 ys v1 o1 W)
    (ho : o1 = og ∨ ∃ g, o1 = some g ∧ w.heap.size + 1 ≤ g) (hU : Upd (fun j => og = some j) wx W) (d : Bool) : RaSt w0 ⟨ys, s.x, d⟩ v1 o1 c W := by
  subst hx
  refine ⟨hS, hU.keeps (alloc_old h.cur) h.apart, ?_⟩
  rcases ho with rfl | ⟨g, rfl, hg⟩
  · exact h.apart
  · intro e
    cases e
    have := heap_lt h.cur
    omega

set_option maxRecDepth 100000 in
set_option maxHeartbeats 4000000 in
theorem radd_any (v : Value) (og : Option Nat) (xs : List Rg) (lo hi : Nat) (m : Int) (w : World) (h : Sl w v og xs) (hm : m ≤ 9223372036854775807) (hm2 : -9223372036854775808 ≤ m) (hl : xs.length * 32 + 64 ≤ 140737488355328) :
    Calls Try.prog 27 #[v, .int .u64 lo, .int .u64 hi, .int .i64 m] w (Kept w og (trimL (mostOf m) (addR lo hi xs))) := by
  obtain ⟨i0, hi0, hz0, hz1, hz2⟩ := info_parts infoR
  obtain ⟨oa, cap, rfl, hcap, hcap2⟩ := h.shape
  have HS := Lib.hid h
  clear h
  generalize hn : xs.length = len at *
  have HN := Lib.hid hn
  clear hn
  have hlen : ∀ k, k ≤ len → (raOf lo hi (xs.take k)).out.length ≤ 2 * k := fun k hk => Nat.le_trans (raOf_len lo hi _) (by rw [List.length_take]; omega)
  have HLEN := Lib.hid hlen
  clear hlen
  obtain ⟨W, hW⟩ : ∃ W, W = w.alloc (.cells #[.int .u64 lo, .int .u64 hi] 34) := ⟨_, rfl⟩
  have H0 := Lib.hid (show RaSt w ⟨[], (lo, hi), false⟩ (.slice none 0 0) none w.heap.size W by
    rw [hW]
    exact ⟨⟨Sl.nil _, by simp, (Below.refl _ _).alloc (Nat.le_refl _) _⟩, alloc_at _ _, by simp⟩)
  have HW := Lib.hid hW
  clear hW
  go_enter Try.func27, Try.ntmps27
  go_upto_block 0 with fail
  rw [← HW.out]
  clear HW
  go_wp2_with fail
  go_loopw [9, 11, 12] (fun ov dv i wr => ∃ (k : Nat) (oo : Option Nat), i = .int .i64 k ∧ k ≤ len ∧ dv = .bool (raOf lo hi (xs.take k)).done ∧ RaSt w (raOf lo hi (xs.take k)) ov oo w.heap.size wr) (fun _ _ i _ => len - (intOf i).toNat)
  case atStart => exact ⟨0, none, rfl, by omega, rfl, H0.out⟩
  case round =>
    obtain ⟨k, oo, rfl, hk, rfl, hst⟩ := hrel
    have HST := Lib.hid hst
    clear hst H0
    have hlen := HLEN.out k hk
    by_cases hlt : k < len
    · obtain ⟨r, hr⟩ : ∃ r, xs[k]? = some r := ⟨_, List.getElem?_eq_getElem (by rw [HN.out]; exact hlt)⟩
      obtain ⟨g, hog, rfl, hgl, c0, c1⟩ := HS.out.atS hr
      have d0 := (HST.out.cut.below.cell (p := ⟨g, k * 2, none⟩) hgl).trans c0
      have d1 := (HST.out.cut.below.cell (p := ⟨g, k * 2 + 1, none⟩) hgl).trans c1
      have HT := Lib.hid (raOf_take (lo := lo) (hi := hi) hr)
      clear c0 c1 hog hr
      generalize raOf lo hi (xs.take k) = s at *
      generalize hnx : raOf lo hi (xs.take (k + 1)) = nxt at *
      have HNX := Lib.hid hnx
      clear hnx
      obtain ⟨ys, ⟨x, y⟩, dn⟩ := s
      have e0 := cell_at HST.out.cur 0
      have e1 := cell_at HST.out.cur 1
      have f0 := free_at HST.out.cur 0
      have f1 := free_at HST.out.cur 1
      simp at e0 e1 hlen
      by_cases h1 : r.2 < x
      · have hs : nxt = ⟨ys ++ [r], (x, y), dn⟩ := by rw [HT.out, Ra.step, if_pos h1]
        have HSX := Lib.hid hs
        clear hs
        go_wp2_with fail
        go_quiet (fail)
        have HCU := Lib.hid (show CutSt w ys _ oo wr from HST.out.cut)
        go_wp2_with (refine cut_push (ys := ys) (by exact (HCU.out.drewN _).alloc _) hi0 hz0 hz1 hz2 rfl (.tmp 48) (.tmp 53) rfl (r := r) (by exact alloc_at (_ : World) _) rfl rfl ?c1 ?_)
        case c1 => omega
        intro W1 v1 o1 hS1 ho1 hU1
        have H1 := Lib.hid (RaSt.pushed (HST.out.drewN _) rfl hS1 ho1 hU1 dn)
        clear hS1 ho1 hU1 HST HCU d0 d1 e0 e1 f0 f1
        go_wp2
        go_roundw
        case rel => exact ⟨k + 1, o1, by go_num, by omega, by rw [HNX.out, HSX.out], by rw [HNX.out, HSX.out]; exact H1.out⟩
        case measure => simp [intOf]; omega
      · by_cases h2 : y < r.1
        · have hs : nxt = ⟨(if dn then ys else ys ++ [(x, y)]) ++ [r], (x, y), true⟩ := by rw [HT.out, Ra.step, if_neg h1, if_pos h2]
          have HSX := Lib.hid hs
          have HCU := Lib.hid (show CutSt w ys _ oo wr from HST.out.cut)
          clear hs
          cases dn
          · go_wp2_with fail
            go_quiet (fail)
            go_wp2_with fail
            go_quiet (fail)
            go_wp2_with (refine cut_push (ys := ys) (by exact (HCU.out.drewN _).alloc _) hi0 hz0 hz1 hz2 rfl (.tmp 66) (.tmp 68) rfl (r := (x, y)) (by exact alloc_at (_ : World) _) rfl rfl ?c1 ?_)
            case c1 => omega
            intro W1 v1 o1 hS1 ho1 hU1
            have H1 := Lib.hid (RaSt.pushed (HST.out.drewN _) rfl hS1 ho1 hU1 true)
            have HC1 := Lib.hid hS1
            have g0 := (hS1.below.cell (p := ⟨g, k * 2, none⟩) hgl)
            have g1 := (hS1.below.cell (p := ⟨g, k * 2 + 1, none⟩) hgl)
            have b0 := (HST.out.cut.below.cell (p := ⟨g, k * 2, none⟩) hgl).symm.trans d0
            have b1 := (HST.out.cut.below.cell (p := ⟨g, k * 2 + 1, none⟩) hgl).symm.trans d1
            replace d0 := g0.trans b0
            replace d1 := g1.trans b1
            clear hS1 ho1 hU1 HST HCU e0 e1 f0 f1 b0 b1 g0 g1
            go_wp2_with (refine cut_push (ys := ys ++ [(x, y)]) (by exact HC1.out.alloc _) hi0 hz0 hz1 hz2 rfl (.tmp 70) (.tmp 75) rfl (r := r) (by exact alloc_at (_ : World) _) rfl rfl ?c1 ?_)
            case c1 => (try simp only [List.length_append, List.length_cons, List.length_nil]); omega
            intro W2 v2 o2 hS2 ho2 hU2
            have H2 := Lib.hid (RaSt.pushed H1.out rfl hS2 ho2 hU2 true)
            clear hS2 ho2 hU2 H1 HC1 d0 d1
            go_wp2
            go_roundw
            case rel => exact ⟨k + 1, o2, by go_num, by omega, by rw [HNX.out, HSX.out], by rw [HNX.out, HSX.out]; simpa using H2.out⟩
            case measure => simp [intOf]; omega
          · go_wp2_with fail
            go_quiet (fail)
            go_wp2_with fail
            go_quiet (fail)
            go_wp2_with (refine cut_push (ys := ys) (by exact (HCU.out.drewN _).alloc _) hi0 hz0 hz1 hz2 rfl (.tmp 70) (.tmp 75) rfl (r := r) (by exact alloc_at (_ : World) _) rfl rfl ?c1 ?_)
            case c1 => omega
            intro W1 v1 o1 hS1 ho1 hU1
            have H1 := Lib.hid (RaSt.pushed (HST.out.drewN _) rfl hS1 ho1 hU1 true)
            clear hS1 ho1 hU1 HST HCU d0 d1 e0 e1 f0 f1
            go_wp2
            go_roundw
            case rel => exact ⟨k + 1, o1, by go_num, by omega, by rw [HNX.out, HSX.out], by rw [HNX.out, HSX.out]; exact H1.out⟩
            case measure => simp [intOf]; omega
        · have hs : nxt = ⟨ys, (min x r.1, max y r.2), dn⟩ := by rw [HT.out, Ra.step, if_neg h1, if_neg h2]
          have HSX := Lib.hid hs
          clear hs
          by_cases h3 : r.1 < x
          all_goals by_cases h4 : y < r.2
          all_goals
            go_wp2_with fail
            go_quiet (fail)
            replace HST := Lib.hid (HST.out.drewN nq)
            replace d0 : (wr.drewN nq).cell? ⟨g, k * 2, none⟩ = some (.int .u64 r.1) := d0
            replace d1 : (wr.drewN nq).cell? ⟨g, k * 2 + 1, none⟩ = some (.int .u64 r.2) := d1
            replace e0 : (wr.drewN nq).cell? ⟨w.heap.size, 0, none⟩ = some (.int .u64 x) := e0
            replace e1 : (wr.drewN nq).cell? ⟨w.heap.size, 1, none⟩ = some (.int .u64 y) := e1
            replace f0 : (wr.drewN nq).frozen? ⟨w.heap.size, 0, none⟩ = false := f0
            replace f1 : (wr.drewN nq).frozen? ⟨w.heap.size, 1, none⟩ = false := f1
            generalize wr.drewN nq = wr1 at *
            go_wp2_with fail
            go_quiet (fail)
            replace HST := Lib.hid (HST.out.drewN nq)
            replace d0 : (wr1.drewN nq).cell? ⟨g, k * 2, none⟩ = some (.int .u64 r.1) := d0
            replace d1 : (wr1.drewN nq).cell? ⟨g, k * 2 + 1, none⟩ = some (.int .u64 r.2) := d1
            replace e0 : (wr1.drewN nq).cell? ⟨w.heap.size, 0, none⟩ = some (.int .u64 x) := e0
            replace e1 : (wr1.drewN nq).cell? ⟨w.heap.size, 1, none⟩ = some (.int .u64 y) := e1
            replace f0 : (wr1.drewN nq).frozen? ⟨w.heap.size, 0, none⟩ = false := f0
            replace f1 : (wr1.drewN nq).frozen? ⟨w.heap.size, 1, none⟩ = false := f1
            generalize wr1.drewN nq = wr2 at *
            go_wp2_with fail
            go_still_tail 17, (by kernel_rfl)
            change wpList _ _ _ _ _ wr2.drew
            replace f0 : wr2.drew.frozen? ⟨w.heap.size, 0, none⟩ = false := f0
            replace f1 : wr2.drew.frozen? ⟨w.heap.size, 1, none⟩ = false := f1
            replace e0 : wr2.drew.cell? ⟨w.heap.size, 0, none⟩ = some (.int .u64 x) := e0
            replace e1 : wr2.drew.cell? ⟨w.heap.size, 1, none⟩ = some (.int .u64 y) := e1
            replace HST := Lib.hid (HST.out.drew)
            clear d0 d1
            generalize wr2.drew = wr3 at *
            go_wp2
            go_roundw
          all_goals try (simp [intOf]; done)
          all_goals try (simp [intOf]; omega)
          all_goals
            refine ⟨k + 1, oo, by go_num, by omega, by rw [HNX.out, HSX.out], ?_⟩
            rw [HNX.out, HSX.out]
            have hp := HST.out.put (Nat.le_refl _) (min x r.1, max y r.2)
            first
              | rw [show min x r.1 = r.1 by omega] at hp ⊢
              | rw [show min x r.1 = x by omega] at hp ⊢
            first
              | rw [show max y r.2 = r.2 by omega] at hp ⊢
              | rw [show max y r.2 = y by omega] at hp ⊢
            exact hp
    · have he : xs.take k = xs := List.take_of_length_le (by rw [HN.out]; omega)
      have hlx := HLEN.out len (Nat.le_refl _)
      rw [show xs.take len = xs from List.take_of_length_le (by rw [HN.out]; omega)] at hlx
      have hadd : addR lo hi xs = if (raOf lo hi xs).done then (raOf lo hi xs).out else (raOf lo hi xs).out ++ [(raOf lo hi xs).x] := rfl
      rw [he] at HST ⊢
      generalize raOf lo hi xs = s at *
      obtain ⟨ys, ⟨x, y⟩, dn⟩ := s
      have HADD := Lib.hid hadd
      have HCU := Lib.hid (show CutSt w ys _ oo wr from HST.out.cut)
      have e0 := cell_at HST.out.cur 0
      have e1 := cell_at HST.out.cur 1
      simp at e0 e1 hlx
      clear hadd he hlen
      cases dn
      · go_wp2_with (refine cut_push (ys := ys) (by exact HCU.out.alloc _) hi0 hz0 hz1 hz2 rfl (.tmp 79) (.tmp 81) rfl (r := (x, y)) (by exact alloc_at (_ : World) _) rfl rfl ?c1 ?_)
        case c1 => omega
        intro W1 v1 o1 hS1 ho1 hU1
        have HS1 := Lib.hid hS1
        clear hS1 ho1 hU1 HST HCU e0 e1
        go_wp2_with fail
        refine (least_any _ o1 (ys ++ [(x, y)]) m _ (by exact HS1.out.sl) hm hm2 (by simp; omega)).mono ?_
        intro e w' hK
        have HK := Lib.hid (Kept.ofNew (og := og) HS1.out.new HS1.out.below hK)
        obtain ⟨v', og', rfl, _⟩ := hK
        go_wp2
        go_ret
        rw [HADD.out]
        exact HK.out
      · go_wp2_with fail
        refine (least_any _ oo ys m _ (by exact HCU.out.sl) hm hm2 (by omega)).mono ?_
        intro e w' hK
        have HK := Lib.hid (Kept.ofNew (og := og) HCU.out.new HCU.out.below hK)
        obtain ⟨v', og', rfl, _⟩ := hK
        go_wp2
        go_ret
        rw [HADD.out]
        exact HK.out
end Go.Proofs.Ytcnpodmifichfaa
