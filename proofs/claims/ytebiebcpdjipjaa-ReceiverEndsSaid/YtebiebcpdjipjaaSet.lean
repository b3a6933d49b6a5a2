/- DERIVED. A set of ranges in memory; trim, All, Len, Largest, Copy, New, Count. -/
import Derived.Test.YtebiebcpdjipjaaDelete
import Derived.Test.YtebiebcpdjipjaaPl
import Derived.Deep.RegionHeld3
namespace Go.Proofs.Ytebiebcpdjipjaa
open Go.RowKit

/-- A set: its block b, its list's value v in row og, at most so many. -/
def SetIs (w : World) (b : Nat) (most : Int) (v : Value) (og : Option Nat) (xs : List Rg) : Prop :=
  w.heap[b]? = some (.cells #[.int .i64 most, v] 98 (0, 0)) ∧ Sl w v og xs ∧ og ≠ some b
def SetAt (w : World) (b : Nat) (most : Int) (og : Option Nat) (xs : List Rg) : Prop := ∃ v, SetIs w b most v og xs

theorem SetIs.keeps {F : Nat → Prop} {w w' : World} {b : Nat} {most : Int} {v : Value} {og : Option Nat} {xs : List Rg} (h : SetIs w b most v og xs) (hu : Upd F w w') (hb : ¬ F b) (hF : ∀ g, og = some g → ¬ F g) : SetIs w' b most v og xs :=
  ⟨hu.keeps h.1 hb, h.2.1.keeps hu hF, h.2.2⟩
theorem SetIs.below {w w' : World} {b : Nat} {most : Int} {v : Value} {og : Option Nat} {xs : List Rg} (h : SetIs w b most v og xs) (hu : Below w.heap.size w w') : SetIs w' b most v og xs :=
  h.keeps (Upd.below hu) (by have := heap_lt h.1; omega) (fun g hg => by have := h.2.1.lt g hg; omega)
theorem SetAt.keeps {F : Nat → Prop} {w w' : World} {b : Nat} {most : Int} {og : Option Nat} {xs : List Rg} (h : SetAt w b most og xs) (hu : Upd F w w') (hb : ¬ F b) (hF : ∀ g, og = some g → ¬ F g) : SetAt w' b most og xs := by
  obtain ⟨v, h⟩ := h
  exact ⟨v, h.keeps hu hb hF⟩
theorem SetAt.below {w w' : World} {b : Nat} {most : Int} {og : Option Nat} {xs : List Rg} (h : SetAt w b most og xs) (hu : Below w.heap.size w w') : SetAt w' b most og xs := by
  obtain ⟨v, h⟩ := h
  exact ⟨v, h.below hu⟩

theorem Sl.shape {w : World} {v : Value} {og : Option Nat} {xs : List Rg} (h : Sl w v og xs) : ∃ oa cap, v = .slice oa xs.length cap ∧ xs.length ≤ cap ∧ cap ≤ 9223372036854775807 := by
  rcases h with ⟨rfl, rfl, _⟩ | ⟨g, ys, _, rfl, _, hl⟩
  · exact ⟨none, 0, rfl, Nat.le_refl _, by omega⟩
  · exact ⟨_, _, rfl, by omega, hl⟩
theorem Sl.at {w : World} {v : Value} {og : Option Nat} {xs : List Rg} (h : Sl w v og xs) {i : Nat} {r : Rg} (hi : xs[i]? = some r) :
    ∃ g cap, og = some g ∧ v = .slice (some ⟨g, 0, none⟩) xs.length cap ∧ w.cell? ⟨g, i * 2, none⟩ = some (.int .u64 r.1) ∧ w.cell? ⟨g, i * 2 + 1, none⟩ = some (.int .u64 r.2) := by
  rcases h with ⟨_, rfl, _⟩ | ⟨g, ys, rfl, rfl, hr, hl⟩
  · simp at hi
  · have hi' : (xs ++ ys)[i]? = some r := by
      obtain ⟨h1, h2⟩ := List.getElem?_eq_some_iff.1 hi
      rw [List.getElem?_append_left h1, hi]
    have h0 := hr.el encR_len i 0 (by omega) hi'
    have h1 := hr.el encR_len i 1 (by omega) hi'
    exact ⟨g, _, rfl, rfl, by simpa [encR] using h0, by simpa [encR] using h1⟩

theorem cell_in {w : World} {b o : Nat} {v : Value} (h : w.cell? ⟨b, o, none⟩ = some v) : b < w.heap.size := by
  unfold World.cell? at h
  rcases Nat.lt_or_ge b w.heap.size with h' | h'
  · exact h'
  · simp [Array.getElem?_eq_none h'] at h

theorem Sl.atS {w : World} {oa : Option Addr} {n cap : Nat} {og : Option Nat} {xs : List Rg} (h : Sl w (.slice oa n cap) og xs) {i : Nat} {r : Rg} (hi : xs[i]? = some r) :
    ∃ g, og = some g ∧ oa = some ⟨g, 0, none⟩ ∧ g < w.heap.size ∧ w.cell? ⟨g, i * 2, none⟩ = some (.int .u64 r.1) ∧ w.cell? ⟨g, i * 2 + 1, none⟩ = some (.int .u64 r.2) := by
  obtain ⟨g, cap', hog, hv, c0, c1⟩ := h.at hi
  simp only [Value.slice.injEq] at hv
  exact ⟨g, hog, hv.1, h.lt g hog, c0, c1⟩

/-- What a method that turns one set leaves. -/
def Turned (w : World) (b : Nat) (most : Int) (og : Option Nat) (ys : List Rg) (w' : World) : Prop :=
  ∃ og', SetAt w' b most og' ys ∧ (og' = og ∨ og' = none ∨ ∃ g, og' = some g ∧ w.heap.size ≤ g) ∧ Upd (fun j => j = b ∨ og = some j) w w'

theorem set_store {w : World} {b : Nat} {most : Int} {v : Value} (hb : w.heap[b]? = some (.cells #[.int .i64 most, v] 98 (0, 0))) (u : Value) :
    (w.setCell ⟨b, 1, none⟩ u).heap[b]? = some (.cells #[.int .i64 most, u] 98 (0, 0)) := by
  rw [set_at hb]
  rfl

set_option maxRecDepth 100000 in
set_option maxHeartbeats 400000 in
theorem trim_any (b : Nat) (most : Int) (og : Option Nat) (xs : List Rg) (w : World) (h : SetAt w b most og xs) (hm : 1 ≤ most) (hm2 : most ≤ 9223372036854775807) :
    Calls Try.prog 60 #[.pointer (some ⟨b, 0, none⟩)] w fun e w' => e = .returned (.tuple #[]) ∧ Turned w b most og (trimL most xs) w' := by
  obtain ⟨v, hb, hs, hne⟩ := h
  obtain ⟨oa, cap, hv, hcap, hcap2⟩ := hs.shape
  have c0 := cell_at hb 0
  have c1 := cell_at hb 1
  have f1 := free_at hb 1
  simp at c0 c1
  have HB := Lib.hid hb
  have HS := Lib.hid hs
  have HV := Lib.hid hv
  clear hb hs
  rw [hv] at c1
  clear hv
  generalize hn : xs.length = n at *
  have HN := Lib.hid hn
  clear hn
  by_cases hle : (n : Int) ≤ most
  · go_enter Try.func60, Try.ntmps60
    go_wp2_with fail
    go_quiet (fail)
    go_wp2
    refine bodyPost_end (results_none rfl _ _ _) rfl ?_
    refine ⟨rfl, og, ⟨v, ?_⟩, .inl rfl, (Upd.refl _ _).drewN _⟩
    have e : trimL most xs = xs := by
      unfold trimL
      rw [HN.out, show n - most.toNat = 0 by omega, List.drop_zero]
    rw [e]
    exact ⟨HB.out, HS.out, hne⟩
  · rcases HS.out with ⟨hv0, hx, _⟩ | ⟨g, ys, rfl, hv2, hr, hl⟩
    · have := HN.out
      rw [hx] at this
      simp at this
      omega
    · have e2 : oa = some ⟨g, 0, none⟩ ∧ cap = n + ys.length := by
        have := HV.out
        rw [hv2] at this
        simp only [Value.slice.injEq, HN.out] at this
        exact ⟨this.1.symm, this.2.2.symm⟩
      obtain ⟨rfl, rfl⟩ := e2
      have HR := Lib.hid hr
      clear hr hv2
      obtain ⟨m, hmm⟩ : ∃ m : Nat, (n : Int) - most = (m : Int) ∧ 0 < m ∧ m < n ∧ m = n - most.toNat := ⟨n - most.toNat, by omega, by omega, by omega, rfl⟩
      obtain ⟨hm1, hm3, hm4, hm5⟩ := hmm
      have HM := Lib.hid hm1
      have HM5 := Lib.hid hm5
      clear hm1 hm5
      go_enter Try.func60, Try.ntmps60
      go_wp2_with fail
      go_quiet (fail)
      go_wp2_with fail
      rw [HM.out]
      refine (delete_front g (xs ++ ys) m n (n + ys.length) _ hm3 hm4 (by omega) (by rw [List.length_append, HN.out]) (by exact HR.out) hcap2).mono ?_
      rintro e w' ⟨rfl, hd, hu⟩
      have HD := Lib.hid hd
      have HU := Lib.hid (((Upd.refl (fun k => k = g) w).drewN nq).then hu)
      have hgb : ¬ b = g := fun e => hne (by rw [e])
      have HB1 := Lib.hid (hu.keeps HB.out hgb)
      have fb := free_at HB1.out 1
      have cb := cell_at HB1.out 1
      simp at cb
      clear hd hu c0 c1 f1
      go_wp2
      refine bodyPost_end (results_none rfl _ _ _) rfl ?_
      have e : trimL most xs = ((xs ++ ys).take n).drop m := by
        unfold trimL
        rw [HN.out, ← HM5.out]
        congr 1
        rw [← HN.out, List.take_append_of_le_length (Nat.le_refl _), List.take_length]
      rw [e]
      refine ⟨rfl, some g, ⟨_, set_store HB1.out _, ?_, hne⟩, .inl rfl, ?_⟩
      · refine (HD.out.sl hcap2 ?_).keeps (F := fun j => j = b) (Upd.setCell (Upd.refl (fun j => j = b) w') ⟨b, 1, none⟩ (.inl rfl) _) (fun j hj => by cases hj; exact fun e => hgb e.symm)
        rw [List.length_drop, List.length_take, List.length_append, HN.out, Nat.min_eq_left (by omega)]
      · exact (HU.out.mono (fun i _ x => .inr (by rw [x]))).setCell _ (.inl (.inl rfl)) _

set_option maxHeartbeats 400000 in
theorem snew_any (m : Int) (w : World) : Calls Try.prog 40 #[.int .i64 m] w fun e w' => ∃ b, e = .returned (.pointer (some ⟨b, 0, none⟩)) ∧ w.heap.size ≤ b ∧ SetAt w' b (mostOf m) none [] ∧ Below w.heap.size w w' := by
  have hc : ∀ x : Int, mostOf m = x → Calls Try.prog 40 #[.int .i64 m] w fun e w' => e = .returned (.pointer (some ⟨w.heap.size, 0, none⟩)) ∧ w' = w.alloc (.cells #[.int .i64 x, .slice none 0 0] 98 (0, 0)) := by
    intro x hx
    unfold mostOf at hx
    by_cases hm : m ≤ 1
    · rw [if_pos hm] at hx
      subst hx
      go_enter Try.func40, Try.ntmps40
      go_wp2
      all_goals (first | (exfalso; omega) | skip)
      all_goals go_ret
      all_goals first | exact ⟨rfl, rfl⟩ | (obtain rfl : m = 1 := by omega; exact ⟨rfl, rfl⟩)
    · rw [if_neg hm] at hx
      subst hx
      go_enter Try.func40, Try.ntmps40
      go_wp2
      all_goals (first | (exfalso; omega) | skip)
      all_goals go_ret
      all_goals exact ⟨rfl, rfl⟩
  refine (hc _ rfl).mono fun e w' ⟨he, hw⟩ => ?_
  subst hw
  exact ⟨_, he, Nat.le_refl _, ⟨_, alloc_at _ _, Sl.nil _, by simp⟩, (Below.refl _ _).alloc (Nat.le_refl _) _⟩

/-- A new slice that reads as ys. -/
def Made (w : World) (ys : List Rg) (e : Ending) (w' : World) : Prop :=
  ∃ v' og', e = .returned v' ∧ Sl w' v' og' ys ∧ (∀ g, og' = some g → w.heap.size ≤ g) ∧ Below w.heap.size w w'

set_option maxRecDepth 100000 in
set_option maxHeartbeats 400000 in
theorem clone_any (v : Value) (og : Option Nat) (xs : List Rg) (w : World) (hs : Sl w v og xs) (hl : xs.length * 16 ≤ 140737488355328) :
    Calls Try.prog 78 #[v] w (Made w xs) := by
  obtain ⟨i0, hi, hz0, hz1, hz2⟩ := info_parts infoR
  have hnil := Lib.run_eql_slice_nil (P := Try.prog) w 31 93
  rcases hs with ⟨rfl, rfl, rfl⟩ | ⟨g, ys, rfl, rfl, hg, hcap⟩
  · go_enter Try.func78, Try.ntmps78
    go_wp2
    go_ret
    exact ⟨_, none, rfl, Sl.nil _, by simp, Below.refl _ _⟩
  · generalize hn : xs.length = n at *
    generalize hny : ys.length = ny at *
    have HG := Lib.hid hg
    have HN := Lib.hid hn
    have HY := Lib.hid hny
    clear hg hn hny
    have hrow0 : Row encR (w.alloc (.cells #[] 93)) 93 w.heap.size ([] : List Rg) := alloc_at _ _
    have HR0 := Lib.hid hrow0
    have HG1 := Lib.hid (show Row encR (w.alloc (.cells #[] 93)) 93 g (xs ++ ys) from alloc_old HG.out)
    have HB := Lib.hid ((Below.refl w.heap.size w).alloc (Nat.le_refl _) (.cells #[] 93))
    clear hrow0
    rcases Nat.eq_zero_or_pos n with h0 | h0
    · subst h0
      have hx : xs = [] := List.eq_nil_of_length_eq_zero HN.out
      go_enter Try.func78, Try.ntmps78
      go_wp2_with (refine wpList_append_at encR_len encR_one Try.underlying31 hi hz1 rfl (.tmp 5) (.tmp 6) rfl (by exact HR0.out) (by exact HG1.out) 0 0 rfl rfl rfl rfl ?c1 ?c2 ?c3 ?_)
      case c1 => omega
      case c2 => simp
      case c3 => omega
      intro W1 hW1 hU1
      have H1 := Lib.hid hW1
      have U1 := Lib.hid hU1
      clear hW1 hU1
      go_wp2
      go_ret
      subst hx
      exact ⟨_, some w.heap.size, rfl, .inr ⟨w.heap.size, [], rfl, rfl, by simpa [splice] using H1.out, by simp⟩, by simp, Upd.onto HB.out U1.out (by simp) (by intro j h1 h2; omega)⟩
    · have HS := Lib.hid (show (w.alloc (.cells #[] 93)).heap.size = w.heap.size + 1 by simp)
      go_enter Try.func78, Try.ntmps78
      go_wp2_with (refine wpList_append_fresh encR_len Try.underlying31 hi hz1 hz0 zeroR rfl (.tmp 5) (.tmp 6) rfl (by exact HR0.out) (by exact HG1.out) 0 0 rfl rfl rfl rfl ?c1 ?c2 ?c3 ?c4 ?c5 ?c6 ?_)
      case c1 => omega
      case c2 => simp
      case c3 => rw [List.length_append, HN.out]; omega
      case c4 => omega
      case c5 => omega
      case c6 => rw [hz2]; omega
      intro W1 cap hW1 hc1 hc2 hB1 hsz
      have e : (xs ++ ys).take n = xs := by rw [← HN.out, List.take_append_of_le_length (Nat.le_refl _), List.take_length]
      have H1 := Lib.hid (show RowR W1 (w.heap.size + 1) (xs ++ List.replicate (cap - n) (0, 0)) by simpa [e] using hW1)
      have B1 := Lib.hid (below_call HB.out (by simp) (show Below (w.alloc (.cells #[] 93)).heap.size (w.alloc (.cells #[] 93)) W1 by simpa using hB1))
      have C1 := Lib.hid (show n ≤ cap ∧ cap ≤ 9223372036854775807 from ⟨by omega, hc2⟩)
      clear hW1 hc1 hc2 hB1 hsz e
      go_wp2
      go_ret
      refine ⟨_, some (w.heap.size + 1), rfl, .inr ⟨w.heap.size + 1, _, rfl, ?_, H1.out, ?_⟩, fun g hg => by cases hg; omega, B1.out⟩
      · have := C1.out
        rw [HN.out, List.length_replicate, show n + (cap - n) = cap by omega]
        first | rfl | simp
      · have := C1.out
        rw [HN.out, List.length_replicate]
        omega

end Go.Proofs.Ytebiebcpdjipjaa
