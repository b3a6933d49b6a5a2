/- DERIVED. A set of ranges in memory; trim, All, Len, Largest, Copy, New, Count. -/
import Derived.Deep.RegionHeld3
import Derived.Deep.DeepCutAuto
import Derived.Test.YtnneoeimgbemfaaGreatQH2
import Derived.Test.YtnneoeimgbemfaaGreatQH3
import Derived.Test.YtnneoeimgbemfaaGreatQH4
set_option linter.all false
namespace Go.Proofs.YtnneoeimgbemfaaGreat
open Go.RowKit

/-- A set: its block b, its list's value v in row og, at most so many. -/
def SetIs (w : World) (b : Nat) (most : Int) (v : Value) (og : Option Nat) (xs : List Rg) : Prop :=
  w.heap[b]? = some (.cells #[.int .i64 most, v] 134 (0, 0)) ∧ Sl w v og xs ∧ og ≠ some b
def SetAt (w : World) (b : Nat) (most : Int) (og : Option Nat) (xs : List Rg) : Prop := ∃ v, SetIs w b most v og xs

theorem SetIs.keeps {F : Nat → Prop} {w w' : World} {b : Nat} {most : Int} {v : Value} {og : Option Nat} {xs : List Rg} (h : SetIs w b most v og xs) (hu : Upd F w w') (hb : ¬ F b) (hF : ∀ g, og = some g → ¬ F g) : SetIs w' b most v og xs :=
  ⟨hu.keeps h.1 hb, h.2.1.keeps hu hF, h.2.2⟩
theorem SetIs.below {w w' : World} {b : Nat} {most : Int} {v : Value} {og : Option Nat} {xs : List Rg} (h : SetIs w b most v og xs) (hu : Below w.heap.size w w') : SetIs w' b most v og xs :=
  h.keeps (Upd.below hu) (by have := heap_lt h.1; omega) (fun g hg => by have := h.2.1.lt g hg; omega)
theorem SetAt.keeps {F : Nat → Prop} {w w' : World} {b : Nat} {most : Int} {og : Option Nat} {xs : List Rg} (h : SetAt w b most og xs) (hu : Upd F w w') (hb : ¬ F b) (hF : ∀ g, og = some g → ¬ F g) : SetAt w' b most og xs := by
  obtain ⟨v, h⟩ := h
  exact ⟨v, h.keeps hu hb hF⟩
theorem SetAt.below {w w' : World} {b : Nat} {most : Int} {og : Option Nat} {xs : List Rg} (h : SetAt w b most og xs) (hu : Below w.heap.size w w') : SetAt w' b most og xs := by
  obtain ⟨v, h⟩ := h
  exact ⟨v, h.below hu⟩

theorem Sl.shape {w : World} {v : Value} {og : Option Nat} {xs : List Rg} (h : Sl w v og xs) : ∃ oa cap, v = .slice oa xs.length cap ∧ xs.length ≤ cap ∧ cap ≤ 9223372036854775807 := by
  rcases h with ⟨rfl, rfl, _⟩ | ⟨g, ys, _, rfl, _, hl⟩
  · exact ⟨none, 0, rfl, Nat.le_refl _, by omega⟩
  · exact ⟨_, _, rfl, by omega, hl⟩
theorem Sl.at {w : World} {v : Value} {og : Option Nat} {xs : List Rg} (h : Sl w v og xs) {i : Nat} {r : Rg} (hi : xs[i]? = some r) :
    ∃ g cap, og = some g ∧ v = .slice (some ⟨g, 0, none⟩) xs.length cap ∧ w.cell? ⟨g, i * 2, none⟩ = some (.int .u64 r.1) ∧ w.cell? ⟨g, i * 2 + 1, none⟩ = some (.int .u64 r.2) := by
  rcases h with ⟨_, rfl, _⟩ | ⟨g, ys, rfl, rfl, hr, hl⟩
  · simp at hi
  · have hi' : (xs ++ ys)[i]? = some r := by
      obtain ⟨h1, h2⟩ := List.getElem?_eq_some_iff.1 hi
      rw [List.getElem?_append_left h1, hi]
    have h0 := hr.el encR_len i 0 (by omega) hi'
    have h1 := hr.el encR_len i 1 (by omega) hi'
    exact ⟨g, _, rfl, rfl, by simpa [encR] using h0, by simpa [encR] using h1⟩

theorem cell_in {w : World} {b o : Nat} {v : Value} (h : w.cell? ⟨b, o, none⟩ = some v) : b < w.heap.size := by
  unfold World.cell? at h
  rcases Nat.lt_or_ge b w.heap.size with h' | h'
  · exact h'
  · simp [Array.getElem?_eq_none h'] at h

theorem Sl.atS {w : World} {oa : Option Addr} {n cap : Nat} {og : Option Nat} {xs : List Rg} (h : Sl w (.slice oa n cap) og xs) {i : Nat} {r : Rg} (hi : xs[i]? = some r) :
    ∃ g, og = some g ∧ oa = some ⟨g, 0, none⟩ ∧ g < w.heap.size ∧ w.cell? ⟨g, i * 2, none⟩ = some (.int .u64 r.1) ∧ w.cell? ⟨g, i * 2 + 1, none⟩ = some (.int .u64 r.2) := by
  obtain ⟨g, cap', hog, hv, c0, c1⟩ := h.at hi
  simp only [Value.slice.injEq] at hv
  exact ⟨g, hog, hv.1, h.lt g hog, c0, c1⟩

/-- What a method that turns one set leaves. -/
def Turned (w : World) (b : Nat) (most : Int) (og : Option Nat) (ys : List Rg) (w' : World) : Prop :=
  ∃ og', SetAt w' b most og' ys ∧ (og' = og ∨ og' = none ∨ ∃ g, og' = some g ∧ w.heap.size ≤ g) ∧ Upd (fun j => j = b ∨ og = some j) w w'

theorem set_store {w : World} {b : Nat} {most : Int} {v : Value} (hb : w.heap[b]? = some (.cells #[.int .i64 most, v] 134 (0, 0))) (u : Value) :
    (w.setCell ⟨b, 1, none⟩ u).heap[b]? = some (.cells #[.int .i64 most, u] 134 (0, 0)) := by
  rw [set_at hb]
  rfl

set_option maxRecDepth 100000 in
set_option maxHeartbeats 400000 in
theorem trim_any (b : Nat) (most : Int) (og : Option Nat) (xs : List Rg) (w : World) (h : SetAt w b most og xs) (hm : 1 ≤ most) (hm2 : most ≤ 9223372036854775807) :
    Calls Tryz.prog 82 #[.pointer (some ⟨b, 0, none⟩)] w fun e w' => e = .returned (.tuple #[]) ∧ Turned w b most og (trimL most xs) w' := by
  obtain ⟨v, hb, hs, hne⟩ := h
  obtain ⟨oa, cap, hv, hcap, hcap2⟩ := hs.shape
  have c0 := cell_at hb 0
  have c1 := cell_at hb 1
  have f1 := free_at hb 1
  simp at c0 c1
  have HB := Lib.hid hb
  have HS := Lib.hid hs
  have HV := Lib.hid hv
  clear hb hs
  rw [hv] at c1
  clear hv
  generalize hn : xs.length = n at *
  have HN := Lib.hid hn
  clear hn
  by_cases hle : (n : Int) ≤ most
  · go_enter Tryz.func82, Tryz.ntmps82
    go_wp2_with fail
    go_quiet (fail)
    go_wp2
    refine bodyPost_end (results_none rfl _ _ _) rfl ?_
    refine ⟨rfl, og, ⟨v, ?_⟩, .inl rfl, (Upd.refl _ _).drewN _⟩
    have e : trimL most xs = xs := by
      unfold trimL
      rw [HN.out, show n - most.toNat = 0 by omega, List.drop_zero]
    rw [e]
    exact ⟨HB.out, HS.out, hne⟩
  · rcases HS.out with ⟨hv0, hx, _⟩ | ⟨g, ys, rfl, hv2, hr, hl⟩
    · have := HN.out
      rw [hx] at this
      simp at this
      omega
    · have e2 : oa = some ⟨g, 0, none⟩ ∧ cap = n + ys.length := by
        have := HV.out
        rw [hv2] at this
        simp only [Value.slice.injEq, HN.out] at this
        exact ⟨this.1.symm, this.2.2.symm⟩
      obtain ⟨rfl, rfl⟩ := e2
      have HR := Lib.hid hr
      clear hr hv2
      obtain ⟨m, hmm⟩ : ∃ m : Nat, (n : Int) - most = (m : Int) ∧ 0 < m ∧ m < n ∧ m = n - most.toNat := ⟨n - most.toNat, by omega, by omega, by omega, rfl⟩
      obtain ⟨hm1, hm3, hm4, hm5⟩ := hmm
      have HM := Lib.hid hm1
      have HM5 := Lib.hid hm5
      clear hm1 hm5
      go_enter Tryz.func82, Tryz.ntmps82
      go_wp2_with fail
      go_quiet (fail)
      go_wp2_with fail
      rw [HM.out]
      refine (delete_front g (xs ++ ys) m n (n + ys.length) _ hm3 hm4 (by omega) (by rw [List.length_append, HN.out]) (by exact HR.out) hcap2).mono ?_
      rintro e w' ⟨rfl, hd, hu⟩
      have HD := Lib.hid hd
      have HU := Lib.hid (((Upd.refl (fun k => k = g) w).drewN nq).then hu)
      have hgb : ¬ b = g := fun e => hne (by rw [e])
      have HB1 := Lib.hid (hu.keeps HB.out hgb)
      have fb := free_at HB1.out 1
      have cb := cell_at HB1.out 1
      simp at cb
      clear hd hu c0 c1 f1
      go_wp2
      refine bodyPost_end (results_none rfl _ _ _) rfl ?_
      have e : trimL most xs = ((xs ++ ys).take n).drop m := by
        unfold trimL
        rw [HN.out, ← HM5.out]
        congr 1
        rw [← HN.out, List.take_append_of_le_length (Nat.le_refl _), List.take_length]
      rw [e]
      refine ⟨rfl, some g, ⟨_, set_store HB1.out _, ?_, hne⟩, .inl rfl, ?_⟩
      · refine (HD.out.sl hcap2 ?_).keeps (F := fun j => j = b) (Upd.setCell (Upd.refl (fun j => j = b) w') ⟨b, 1, none⟩ (.inl rfl) _) (fun j hj => by cases hj; exact fun e => hgb e.symm)
        rw [List.length_drop, List.length_take, List.length_append, HN.out, Nat.min_eq_left (by omega)]
      · exact (HU.out.mono (fun i _ x => .inr (by rw [x]))).setCell _ (.inl (.inl rfl)) _

set_option maxHeartbeats 400000 in
theorem snew_any (m : Int) (w : World) : Calls Tryz.prog 76 #[.int .i64 m] w fun e w' => ∃ b, e = .returned (.pointer (some ⟨b, 0, none⟩)) ∧ w.heap.size ≤ b ∧ SetAt w' b (mostOf m) none [] ∧ Below w.heap.size w w' := by
  have hc : ∀ x : Int, mostOf m = x → Calls Tryz.prog 76 #[.int .i64 m] w fun e w' => e = .returned (.pointer (some ⟨w.heap.size, 0, none⟩)) ∧ w' = w.alloc (.cells #[.int .i64 x, .slice none 0 0] 134 (0, 0)) := by
    intro x hx
    unfold mostOf at hx
    by_cases hm : m ≤ 1
    · rw [if_pos hm] at hx
      subst hx
      go_enter Tryz.func76, Tryz.ntmps76
      go_wp2
      all_goals (first | (exfalso; omega) | skip)
      all_goals go_ret
      all_goals first | exact ⟨rfl, rfl⟩ | (obtain rfl : m = 1 := by omega; exact ⟨rfl, rfl⟩)
    · rw [if_neg hm] at hx
      subst hx
      go_enter Tryz.func76, Tryz.ntmps76
      go_wp2
      all_goals (first | (exfalso; omega) | skip)
      all_goals go_ret
      all_goals exact ⟨rfl, rfl⟩
  refine (hc _ rfl).mono fun e w' ⟨he, hw⟩ => ?_
  subst hw
  exact ⟨_, he, Nat.le_refl _, ⟨_, alloc_at _ _, Sl.nil _, by simp⟩, (Below.refl _ _).alloc (Nat.le_refl _) _⟩

/-- A new slice that reads as ys. -/
def Made (w : World) (ys : List Rg) (e : Ending) (w' : World) : Prop :=
  ∃ v' og', e = .returned v' ∧ Sl w' v' og' ys ∧ (∀ g, og' = some g → w.heap.size ≤ g) ∧ Below w.heap.size w w'

set_option maxRecDepth 100000 in
set_option maxHeartbeats 400000 in
theorem clone_any (v : Value) (og : Option Nat) (xs : List Rg) (w : World) (hs : Sl w v og xs) (hl : xs.length * 16 ≤ 140737488355328) :
    Calls Tryz.prog 97 #[v] w (Made w xs) := by
  obtain ⟨i0, hi, hz0, hz1, hz2⟩ := info_parts infoR
  have hnil := Lib.run_eql_slice_nil (P := Tryz.prog) w 42 123
  rcases hs with ⟨rfl, rfl, rfl⟩ | ⟨g, ys, rfl, rfl, hg, hcap⟩
  · go_enter Tryz.func97, Tryz.ntmps97
    go_wp2
    go_ret
    exact ⟨_, none, rfl, Sl.nil _, by simp, Below.refl _ _⟩
  · generalize hn : xs.length = n at *
    generalize hny : ys.length = ny at *
    have HG := Lib.hid hg
    have HN := Lib.hid hn
    have HY := Lib.hid hny
    clear hg hn hny
    have hrow0 : Row encR (w.alloc (.cells #[] 123)) 123 w.heap.size ([] : List Rg) := alloc_at _ _
    have HR0 := Lib.hid hrow0
    have HG1 := Lib.hid (show Row encR (w.alloc (.cells #[] 123)) 123 g (xs ++ ys) from alloc_old HG.out)
    have HB := Lib.hid ((Below.refl w.heap.size w).alloc (Nat.le_refl _) (.cells #[] 123))
    clear hrow0
    rcases Nat.eq_zero_or_pos n with h0 | h0
    · subst h0
      have hx : xs = [] := List.eq_nil_of_length_eq_zero HN.out
      go_enter Tryz.func97, Tryz.ntmps97
      go_wp2_with (refine wpList_append_at encR_len encR_one Tryz.underlying42 hi hz1 rfl (.tmp 5) (.tmp 6) rfl (by exact HR0.out) (by exact HG1.out) 0 0 rfl rfl rfl rfl ?c1 ?c2 ?c3 ?_)
      case c1 => omega
      case c2 => simp
      case c3 => omega
      intro W1 hW1 hU1
      have H1 := Lib.hid hW1
      have U1 := Lib.hid hU1
      clear hW1 hU1
      go_wp2
      go_ret
      subst hx
      exact ⟨_, some w.heap.size, rfl, .inr ⟨w.heap.size, [], rfl, rfl, by simpa [splice] using H1.out, by simp⟩, by simp, Upd.onto HB.out U1.out (by simp) (by intro j h1 h2; omega)⟩
    · have HS := Lib.hid (show (w.alloc (.cells #[] 123)).heap.size = w.heap.size + 1 by simp)
      go_enter Tryz.func97, Tryz.ntmps97
      go_wp2_with (refine wpList_append_fresh encR_len Tryz.underlying42 hi hz1 hz0 zeroR rfl (.tmp 5) (.tmp 6) rfl (by exact HR0.out) (by exact HG1.out) 0 0 rfl rfl rfl rfl ?c1 ?c2 ?c3 ?c4 ?c5 ?c6 ?_)
      case c1 => omega
      case c2 => simp
      case c3 => rw [List.length_append, HN.out]; omega
      case c4 => omega
      case c5 => omega
      case c6 => rw [hz2]; omega
      intro W1 cap hW1 hc1 hc2 hB1 hsz
      have e : (xs ++ ys).take n = xs := by rw [← HN.out, List.take_append_of_le_length (Nat.le_refl _), List.take_length]
      have H1 := Lib.hid (show RowR W1 (w.heap.size + 1) (xs ++ List.replicate (cap - n) (0, 0)) by simpa [e] using hW1)
      have B1 := Lib.hid (below_call HB.out (by simp) (show Below (w.alloc (.cells #[] 123)).heap.size (w.alloc (.cells #[] 123)) W1 by simpa using hB1))
      have C1 := Lib.hid (show n ≤ cap ∧ cap ≤ 9223372036854775807 from ⟨by omega, hc2⟩)
      clear hW1 hc1 hc2 hB1 hsz e
      go_wp2
      go_ret
      refine ⟨_, some (w.heap.size + 1), rfl, .inr ⟨w.heap.size + 1, _, rfl, ?_, H1.out, ?_⟩, fun g hg => by cases hg; omega, B1.out⟩
      · have := C1.out
        rw [HN.out, List.length_replicate, show n + (cap - n) = cap by omega]
        first | rfl | simp
      · have := C1.out
        rw [HN.out, List.length_replicate]
        omega

end Go.Proofs.YtnneoeimgbemfaaGreat

/- DERIVED. Walk of a set's All. -/
namespace Go.Proofs.YtnneoeimgbemfaaGreat
open Go.RowKit
set_option maxHeartbeats 400000 in
theorem all_any (b : Nat) (most : Int) (og : Option Nat) (xs : List Rg) (w : World) (h : SetAt w b most og xs) (hl : xs.length * 16 ≤ 140737488355328) :
    Calls Tryz.prog 81 #[.pointer (some ⟨b, 0, none⟩)] w (Made w xs) := by
  obtain ⟨v, hb, hs, hne⟩ := h
  have c1 := cell_at hb 1
  simp at c1
  have HS := Lib.hid hs
  clear hb hs
  go_enter Tryz.func81, Tryz.ntmps81
  go_wp2_with fail
  refine (clone_any _ _ _ _ HS.out hl).mono ?_
  rintro e w' ⟨v', og', rfl, h1, h2, h3⟩
  have HM := Lib.hid (show Made w xs (.returned v') w' from ⟨v', og', rfl, h1, h2, h3⟩)
  clear h1 h2 h3
  go_wp2
  go_ret
  exact HM.out
end Go.Proofs.YtnneoeimgbemfaaGreat

/- DERIVED. A slice of one's own that may begin inside its row: what is left of it from a place on; append onto it. -/
namespace Go.Proofs.YtnneoeimgbemfaaGreat
open Go.RowKit

section
variable {α : Type} {enc : α → List Value}
/-- A slice value that is empty, or lies in the row og, and reads as xs. -/
def SlO (enc : α → List Value) (k : Nat) (E : TypeId) (w : World) (v : Value) (og : Option Nat) (xs : List α) : Prop :=
  (∃ oa, v = .slice oa 0 0 ∧ xs = [] ∧ og = none) ∨
  ∃ g pre ys, og = some g ∧ v = .slice (some ⟨g, List.length pre * k, none⟩) xs.length (xs.length + ys.length) ∧ Row enc w E g (pre ++ xs ++ ys) ∧ xs.length + ys.length ≤ 9223372036854775807
variable {k : Nat}
theorem SlO.nil (E : TypeId) (w : World) (oa : Option Addr) : SlO enc k E w (.slice oa 0 0) none ([] : List α) := .inl ⟨oa, rfl, rfl, rfl⟩
theorem SlO.lt {E : TypeId} {w : World} {v : Value} {og : Option Nat} {xs : List α} (h : SlO enc k E w v og xs) : ∀ g, og = some g → g < w.heap.size := by
  rcases h with ⟨_, _, _, rfl⟩ | ⟨g, _, ys, rfl, _, h, _⟩
  · intro g hg; cases hg
  · intro g' hg
    cases hg
    exact heap_lt h
theorem SlO.keeps {E : TypeId} {F : Nat → Prop} {w w' : World} {v : Value} {og : Option Nat} {xs : List α} (h : SlO enc k E w v og xs) (hu : Upd F w w') (hF : ∀ g, og = some g → ¬ F g) : SlO enc k E w' v og xs := by
  rcases h with h | ⟨g, pre, ys, rfl, hv, h, hl⟩
  · exact .inl h
  · exact .inr ⟨g, pre, ys, rfl, hv, hu.keeps h (hF g rfl), hl⟩
theorem SlO.below {E : TypeId} {w w' : World} {v : Value} {og : Option Nat} {xs : List α} (h : SlO enc k E w v og xs) (hu : Below w.heap.size w w') : SlO enc k E w' v og xs :=
  h.keeps (Upd.below hu) (fun g hg => by have := h.lt g hg; omega)
theorem SlO.shape {E : TypeId} {w : World} {v : Value} {og : Option Nat} {xs : List α} (h : SlO enc k E w v og xs) : ∃ oa cap, v = .slice oa xs.length cap ∧ xs.length ≤ cap ∧ cap ≤ 9223372036854775807 := by
  rcases h with ⟨oa, rfl, rfl, _⟩ | ⟨g, pre, ys, _, rfl, _, hl⟩
  · exact ⟨oa, 0, rfl, Nat.le_refl _, by omega⟩
  · exact ⟨_, _, rfl, by omega, hl⟩
theorem SlO.apart {E T : TypeId} {w : World} {v : Value} {og : Option Nat} {xs : List α} (h : SlO enc k E w v og xs) {b : Nat} {cs : Array Value} {z : Nat × Nat} (hb : w.heap[b]? = some (.cells cs T z)) (hT : E ≠ T) : og ≠ some b := by
  rintro rfl
  rcases h with ⟨_, _, _, h1⟩ | ⟨g, _, zs, h1, _, hr, _⟩
  · cases h1
  · cases h1
    unfold Row at hr
    rw [hb] at hr
    simp at hr
    exact hT hr.2.1.symm
theorem SlO.vw {E : TypeId} {w : World} {v : Value} {og : Option Nat} {xs : List α} (hk : ∀ a, (enc a).length = k) (h : SlO enc k E w v og xs) : Vw enc w w.heap.size v xs := by
  rcases h with ⟨oa, rfl, rfl, rfl⟩ | ⟨g, pre, ys, rfl, rfl, hr, hl⟩
  · exact Vw.nil _ _ _ _ (by omega)
  · refine ⟨_, _, rfl, by omega, hl, .inr ⟨g, _, rfl, heap_lt hr, ?_⟩⟩
    intro j u hj
    rw [hr.cell, List.append_assoc, flat_append, List.getElem?_append_right (by rw [flat_length hk]; omega), flat_length hk, Nat.add_sub_cancel_left]
    rw [flat_append, List.getElem?_append_left (by rw [List.getElem?_eq_some_iff] at hj; exact hj.1)]
    exact hj
/-- What is left of it. -/
theorem SlO.tail {E : TypeId} {w : World} {oa : Option Addr} {len cap n : Nat} {og : Option Nat} {xs : List α} (h : SlO enc k E w (.slice oa len cap) og xs) (hn : n ≤ len) : ∃ og', SlO enc k E w (tailV oa k len cap n) og' (xs.drop n) ∧ (og' = og ∨ og' = none) := by
  rcases h with ⟨oa', h1, rfl, rfl⟩ | ⟨g, pre, ys, rfl, h1, hr, hl⟩
  · cases h1
    refine ⟨none, .inl ⟨_, by rw [tailV]; simp; rfl, by simp, rfl⟩, .inl rfl⟩
  · cases h1
    by_cases hc : xs.length + ys.length = n
    · refine ⟨none, .inl ⟨some ⟨g, pre.length * k, none⟩, ?_, List.drop_of_length_le (by omega), rfl⟩, .inr rfl⟩
      rw [tailV, if_pos hc, show xs.length - n = 0 by omega, show xs.length + ys.length - n = 0 by omega]
    · refine ⟨some g, .inr ⟨g, pre ++ xs.take n, ys, rfl, ?_, ?_, ?_⟩, .inl rfl⟩
      · have e1 : (pre ++ xs.take n).length = pre.length + n := by rw [List.length_append, List.length_take]; omega
        rw [tailV, if_neg hc, e1, List.length_drop]
        simp only [Option.map_some, add_lit', Nat.add_mul]
        congr 1
        omega
      · rw [List.append_assoc, List.append_assoc, ← List.append_assoc (xs.take n), List.take_append_drop, ← List.append_assoc]
        exact hr
      · rw [List.length_drop]
        omega
end
section
variable {α : Type} {enc : α → List Value} {k : Nat} {P : Program} {w : World} {e dT : TypeId} {i : TypeInfo}
theorem run_push_none' (hu : P.underlying dT = some (.slice e)) (hi : P.info? e = some i) (ty : TypeId) (o1 : Option Addr) (n1 c1 : Nat) (h1 : n1 ≤ c1) (oa : Option Addr) (c : Nat) :
    (Builtin.append_ #[dT, dT] ty #[.slice o1 n1 c1, .slice oa 0 c]).run P w = .ok (.slice o1 n1 c1) w := by
  have hl : ∀ a : Addr, (loadCells a 0).run P w = .ok #[] w := fun a => by simp [loadCells, loadCellsFrom]
  cases o1 <;> cases oa <;> simp [Builtin.append_, run_underlying hu, sizeOf, typeInfo, hi, Builtin.lenOf, Builtin.firstCells, storeCells, hl, h1]
/-- append(s, x...), s of one's own. -/
theorem run_pushO (hk : ∀ a, (enc a).length = k) (h1 : ∀ a, ∀ v ∈ enc a, v.oneCell' = true) (hu : P.underlying dT = some (.slice e)) (hi : P.info? e = some i) (hz : i.size = k) {z : Value} (hzz : i.zero = some z) {a0 : α} (ha0 : z.cells.toList = enc a0) (ty : TypeId)
    {v u : Value} {og : Option Nat} {xs zs : List α} {B : Nat} (h : SlO enc k e w v og xs) (hs : Vw enc w B u zs) (h63 : xs.length + zs.length ≤ 9223372036854775807) (hb : (xs.length + zs.length) * i.bytes ≤ 140737488355328) :
    ∃ W v' og', (Builtin.append_ #[dT, dT] ty #[v, u]).run P w = .ok v' W ∧ SlO enc k e W v' og' (xs ++ zs) ∧ (og' = og ∨ ∃ g, og' = some g ∧ w.heap.size ≤ g) ∧ Upd (fun j => og = some j) w W := by
  rcases Nat.eq_zero_or_pos zs.length with h0 | h0
  · obtain ⟨oa, cap, rfl, _, _⟩ := hs.shape
    obtain ⟨o1, c1, rfl, hc1, _⟩ := h.shape
    have e0 := List.eq_nil_of_length_eq_zero h0
    subst e0
    exact ⟨w, _, og, run_push_none' hu hi ty o1 _ c1 hc1 oa cap, by rw [List.append_nil]; exact h, .inl rfl, Upd.refl _ _⟩
  · obtain ⟨ad, c, rfl, hsrc⟩ := hs.src h0
    have fresh : ∀ (m cap : Nat), m = xs.length + zs.length → m ≤ cap → cap ≤ 9223372036854775807 → ∀ cs : Array Value, cs.toList = flat enc (xs ++ zs ++ List.replicate (cap - m) a0) →
        SlO enc k e (w.drew.alloc (.cells cs e)) (.slice (some ⟨w.heap.size, 0, none⟩) m cap) (some w.heap.size) (xs ++ zs) := by
      intro m cap hm hc hc2 cs hcs
      have hl : (xs ++ zs).length = m := by rw [List.length_append, hm]
      refine .inr ⟨w.heap.size, [], List.replicate (cap - m) a0, rfl, ?_, ?_, ?_⟩
      · rw [hl, List.length_replicate, show m + (cap - m) = cap by omega]
        simp
      · unfold Row
        refine (alloc_at w.drew _).trans ?_
        rw [List.nil_append, ← hcs]
      · rw [hl, List.length_replicate]
        omega
    have hup : ∀ o : Obj, Upd (fun j => og = some j) w (w.drew.alloc o) := fun o => (Upd.below ((Below.refl w.heap.size w).drew.alloc (Nat.le_refl _) _)).mono (fun j hj x => by omega)
    rcases h with ⟨oa, rfl, rfl, rfl⟩ | ⟨g, pre, ys, rfl, rfl, hr, hl⟩
    · simp only [List.length_nil, Nat.zero_add] at h63 hb
      cases oa with
      | none =>
        have hrun := run_append_nil (P := P) w dT ty e i z hu hi hzz ad zs.length c (flat enc zs) (by rw [flat_length hk, hz]) hsrc h0 (by omega) (by omega)
        have hc1 := grownCap_ge w zs.length 0 e
        have hc2 := grownCap_le_maxLen w zs.length 0 e (by unfold maxLen; omega)
        refine ⟨_, _, some w.heap.size, hrun, fresh _ _ (by simp) (by omega) (by unfold maxLen at hc2; omega) _ ?_, .inr ⟨_, rfl, Nat.le_refl _⟩, hup _⟩
        rw [List.nil_append, flat_append, ← flat_replicate_zero (hk a0) ha0]
        simp
      | some a1 =>
        have hrun := run_append_grow (P := P) w dT ty e i z hu hi hzz a1 0 0 [] (by simp) (by intro j v hv; simp at hv) ad zs.length c (flat enc zs) (by rw [flat_length hk, hz]) hsrc (by omega) (by omega) (growslice_fits (by omega) (by rw [Nat.zero_add]; exact hb))
        have hc1 := grownCap_ge w (0 + zs.length) 0 e
        have hc2 := grownCap_le_maxLen w (0 + zs.length) 0 e (by unfold maxLen; omega)
        refine ⟨_, _, some w.heap.size, hrun, fresh _ _ (by simp) (by omega) (by unfold maxLen at hc2; omega) _ ?_, .inr ⟨_, rfl, Nat.le_refl _⟩, hup _⟩
        rw [List.nil_append, flat_append, ← flat_replicate_zero (hk a0) ha0]
        simp
    · by_cases hroom : zs.length ≤ ys.length
      · have hf := run_firstCells_some (P := P) w k zs.length ad zs.length c (flat enc zs) (flat_length hk zs) hsrc
        have hst := run_store_row (P := P) w hk h1 hr (pre ++ xs).length zs (by simp; omega)
        have ha : (⟨g, pre.length * k, none⟩ : Addr).add (xs.length * k) = ⟨g, (pre ++ xs).length * k, none⟩ := by rw [add_lit', List.length_append, Nat.add_mul]
        have hro : xs.length + zs.length ≤ xs.length + ys.length := by omega
        have e1 : splice (pre ++ xs ++ ys) (pre ++ xs).length zs = (pre ++ (xs ++ zs)) ++ ys.drop zs.length := by
          rw [splice_end (pre ++ xs) ys zs hroom]
          simp
        refine ⟨setR enc w g (splice (pre ++ xs ++ ys) (pre ++ xs).length zs), .slice (some ⟨g, pre.length * k, none⟩) (xs.length + zs.length) (xs.length + ys.length), some g, ?_, .inr ⟨g, pre, ys.drop zs.length, rfl, ?_, ?_, ?_⟩, .inl rfl, ?_⟩
        · generalize setR enc w g (splice (pre ++ xs ++ ys) (pre ++ xs).length zs) = WW at hst
          generalize (pre ++ xs).length = q at hst ha
          simp [Builtin.append_, run_underlying hu, sizeOf, typeInfo, hi, hz, Builtin.lenOf, hf, ha, hst, hroom]
        · simp
          omega
        · rw [← e1]
          exact hr.set _
        · simp
          omega
        · exact (setR_upd w g _).mono (fun j _ x => by rw [x])
      · have hrun := run_append_grow (P := P) w dT ty e i z hu hi hzz ⟨g, pre.length * k, none⟩ xs.length (xs.length + ys.length) (flat enc xs) (by rw [flat_length hk, hz])
          (by
            have := hr.src hk pre.length xs.length (by rw [List.length_append, List.length_append]; omega)
            rw [List.append_assoc, List.drop_left, List.take_left] at this
            exact this) ad zs.length c (flat enc zs) (by rw [flat_length hk, hz]) hsrc (by omega) (by omega) (growslice_fits (by omega) hb)
        have hc1 := grownCap_ge w (xs.length + zs.length) (xs.length + ys.length) e
        have hc2 := grownCap_le_maxLen w (xs.length + zs.length) (xs.length + ys.length) e (by unfold maxLen; omega)
        refine ⟨_, _, some w.heap.size, hrun, fresh _ _ rfl (by omega) (by unfold maxLen at hc2; omega) _ ?_, .inr ⟨_, rfl, Nat.le_refl _⟩, hup _⟩
        rw [flat_append, flat_append, ← flat_replicate_zero (hk a0) ha0]
        simp
theorem wpList_pushO (hk : ∀ a, (enc a).length = k) (h1 : ∀ a, ∀ v ∈ enc a, v.oneCell' = true) (hu : P.underlying dT = some (.slice e)) (hi : P.info? e = some i) (hz : i.size = k) {z : Value} (hzz : i.zero = some z) {a0 : α} (ha0 : z.cells.toList = enc a0)
    {ops : Array Oper} {rest : List Oper} {o : Oper} {a : Act} {Q : Exit → Act → World → Prop} (hgd : o.guard = none) (d s : Operand)
    (ho : o.op = .call { callee := .builtin .append, args := #[d, s], argTypes := #[dT, dT] }) {v u : Value} {og : Option Nat} {xs : List α} (h : SlO enc k e w v og xs) {B : Nat} {zs : List α} (hs : Vw enc w B u zs)
    (hd : a.eval d = v) (hsv : a.eval s = u) (hb : (xs.length + zs.length) * i.bytes ≤ 140737488355328) (hb1 : xs.length + zs.length ≤ 9223372036854775807)
    (hK : ∀ W v' og', SlO enc k e W v' og' (xs ++ zs) → (og' = og ∨ ∃ g, og' = some g ∧ w.heap.size ≤ g) → Upd (fun j => og = some j) w W → wpList P ops Q rest (a.put o.dst v') W) : wpList P ops Q (o :: rest) a w := by
  obtain ⟨W, v', og', h2, h3, h4, h5⟩ := run_pushO hk h1 hu hi hz hzz ha0 o.type h hs hb1 hb
  exact Lib.wpList_append_run w hgd d s dT dT ho _ _ hd hsv _ _ h2 (hK W v' og' h3 h4 h5)
theorem step_pushO (hk : ∀ a, (enc a).length = k) (h1 : ∀ a, ∀ v ∈ enc a, v.oneCell' = true) (hu : P.underlying dT = some (.slice e)) (hi : P.info? e = some i) (hz : i.size = k) {z : Value} (hzz : i.zero = some z) {a0 : α} (ha0 : z.cells.toList = enc a0)
    {ops : Array Oper} {o : Oper} {a : Act} {K : Act → World → Prop} {Q : Exit → Act → World → Prop} {F : Prop} (hgd : o.guard = none) (d s : Operand)
    (ho : o.op = .call { callee := .builtin .append, args := #[d, s], argTypes := #[dT, dT] }) {v u : Value} {og : Option Nat} {xs : List α} (h : SlO enc k e w v og xs) {B : Nat} {zs : List α} (hs : Vw enc w B u zs)
    (hd : a.eval d = v) (hsv : a.eval s = u) (hb : (xs.length + zs.length) * i.bytes ≤ 140737488355328) (hb1 : xs.length + zs.length ≤ 9223372036854775807)
    (hK : ∀ W v' og', SlO enc k e W v' og' (xs ++ zs) → (og' = og ∨ ∃ g, og' = some g ∧ w.heap.size ≤ g) → Upd (fun j => og = some j) w W → K (a.put o.dst v') W) : if Region.wanted o (yielded ops a.tmps) = true then Oper.wp P o a w K Q else F := by
  obtain ⟨W, v', og', h2, h3, h4, h5⟩ := run_pushO hk h1 hu hi hz hzz ha0 o.type h hs hb1 hb
  exact step_append_run w hgd d s dT dT ho _ _ hd hsv h2 (hK W v' og' h3 h4 h5)
end
end Go.Proofs.YtnneoeimgbemfaaGreat

/- DERIVED. What an object's blocks have become. -/
namespace Go.Proofs.YtnneoeimgbemfaaGreat
open Go.RowKit

/-- What an object's blocks have become: of the old ones, or new. -/
structure Went (fp fp' : Nat → Prop) (w w' : World) : Prop where
  upd : Upd fp w w'
  new : ∀ g, fp' g → fp g ∨ w.heap.size ≤ g
theorem Went.refl (fp : Nat → Prop) (w : World) : Went fp fp w w := ⟨Upd.refl _ _, fun _ h => .inl h⟩
theorem Went.trans {f g h : Nat → Prop} {a b c : World} (x : Went f g a b) (y : Went g h b c) : Went f h a c :=
  ⟨x.upd.trans y.upd (fun _ _ h => h) (fun i hi hg => by
    rcases x.new i hg with h | h
    · exact h
    · omega), fun k hk => by
    rcases y.new k hk with h' | h'
    · exact x.new k h'
    · right
      have := x.upd.size
      omega⟩
theorem Went.drewN {f g : Nat → Prop} {a b : World} (x : Went f g a b) (n : Nat) : Went f g a (b.drewN n) := ⟨x.upd.drewN n, x.new⟩
theorem Went.later {f g : Nat → Prop} {a b c : World} (x : Went f g a b) (y : Below b.heap.size b c) : Went f g a c :=
  ⟨x.upd.trans (Upd.below y) (fun _ _ h => h) (fun i hi h => by have := x.upd.size; omega), x.new⟩
theorem Went.first {f g : Nat → Prop} {a b c : World} (y : Below a.heap.size a b) (x : Went f g b c) : Went f g a c :=
  ⟨(Upd.below y).trans x.upd (fun i hi h => by omega) (fun _ _ h => h), fun k hk => by
    rcases x.new k hk with h | h
    · exact .inl h
    · right
      have := y.size
      omega⟩
theorem Went.mono {f f2 g : Nat → Prop} {a b : World} (x : Went f g a b) (h : ∀ k, f k → f2 k) : Went f2 g a b :=
  ⟨x.upd.mono (fun k _ hk => h k hk), fun k hk => by
    rcases x.new k hk with h' | h'
    · exact .inl (h k h')
    · exact .inr h'⟩
end Go.Proofs.YtnneoeimgbemfaaGreat

/- DERIVED. The program's buffer of bytes that go: its plain state; in memory. -/
namespace Go.Proofs.YtnneoeimgbemfaaGreat
open Go.RowKit

/-- The state: bytes written; the base; how many went; acknowledged ranges, lost ranges; the end. -/
structure OS where
  B : List Nat
  base : Nat
  sent : Nat
  xs : List Rg
  ys : List Rg
  fi : Bool
  es : Bool
  ea : Bool
  el : Bool
def OS.zero : OS := ⟨[], 0, 0, [], [], false, false, false, false⟩
structure OS.Ok (s : OS) : Prop where
  len : s.B.length ≤ 1099511627776
  base : s.base ≤ s.B.length
  sent : s.sent ≤ s.B.length
  nx : Norm s.xs
  ny : Norm s.ys
  lx : s.xs.length ≤ 100000
  ly : s.ys.length ≤ 100000
  bys : Bys s.B
theorem OS.zero_ok : OS.zero.Ok := ⟨by simp [OS.zero], by simp [OS.zero], by simp [OS.zero], ⟨by simp [OS.zero], by simp [OS.zero]⟩, ⟨by simp [OS.zero], by simp [OS.zero]⟩, by simp [OS.zero], by simp [OS.zero], by unfold Bys; simp [OS.zero]⟩
def many : Int := 1048576

/-- The buffer in memory: its own block b, the sets c and d, their rows, the bytes' row. -/
structure OutAt (w : World) (b : Nat) (s : OS) (vb : Value) (ob : Option Nat) (c : Nat) (oc : Option Nat) (d : Nat) (od : Option Nat) : Prop where
  blk : w.heap[b]? = some (.cells #[vb, .int .u64 s.base, .int .u64 s.B.length, .int .u64 s.sent, .pointer (some ⟨c, 0, none⟩), .pointer (some ⟨d, 0, none⟩), .bool s.fi, .bool s.es, .bool s.ea, .bool s.el] 109 (0, 0))
  row : SlO encB 1 5 w vb ob (s.B.drop s.base)
  sx : SetAt w c many oc s.xs
  sy : SetAt w d many od s.ys
  ok : s.Ok
  cd : c ≠ d ∧ oc ≠ some d ∧ od ≠ some c ∧ (∀ g, oc = some g → od ≠ some g)
  bcd : b ≠ c ∧ b ≠ d ∧ oc ≠ some b ∧ od ≠ some b
  obs : ob ≠ some b ∧ ob ≠ some c ∧ ob ≠ some d ∧ (∀ g, ob = some g → oc ≠ some g ∧ od ≠ some g)
def OFp (b c d : Nat) (ob oc od : Option Nat) (j : Nat) : Prop := j = b ∨ j = c ∨ j = d ∨ ob = some j ∨ oc = some j ∨ od = some j
def OAt (w : World) (b : Nat) (s : OS) (fp : Nat → Prop) : Prop := ∃ vb ob c oc d od, OutAt w b s vb ob c oc d od ∧ fp = OFp b c d ob oc od
theorem OutAt.keeps {F : Nat → Prop} {w w' : World} {b : Nat} {s : OS} {vb : Value} {ob : Option Nat} {c : Nat} {oc : Option Nat} {d : Nat} {od : Option Nat} (h : OutAt w b s vb ob c oc d od) (hu : Upd F w w') (hF : ∀ k, OFp b c d ob oc od k → ¬ F k) : OutAt w' b s vb ob c oc d od :=
  ⟨hu.keeps h.blk (hF b (.inl rfl)), h.row.keeps hu (fun g hg => hF g (.inr (.inr (.inr (.inl hg))))), h.sx.keeps hu (hF c (.inr (.inl rfl))) (fun g hg => hF g (.inr (.inr (.inr (.inr (.inl hg)))))),
    h.sy.keeps hu (hF d (.inr (.inr (.inl rfl)))) (fun g hg => hF g (.inr (.inr (.inr (.inr (.inr hg)))))), h.ok, h.cd, h.bcd, h.obs⟩
theorem SetAt.lt {w : World} {b : Nat} {m : Int} {og : Option Nat} {xs : List Rg} (h : SetAt w b m og xs) : b < w.heap.size ∧ ∀ g, og = some g → g < w.heap.size := by
  obtain ⟨u, h1, h2, _⟩ := h
  exact ⟨heap_lt h1, h2.lt⟩
theorem OutAt.lt {w : World} {b : Nat} {s : OS} {vb : Value} {ob : Option Nat} {c : Nat} {oc : Option Nat} {d : Nat} {od : Option Nat} (h : OutAt w b s vb ob c oc d od) : ∀ k, OFp b c d ob oc od k → k < w.heap.size := by
  rintro k (rfl | rfl | rfl | q | q | q)
  · exact heap_lt h.blk
  · exact h.sx.lt.1
  · exact h.sy.lt.1
  · exact h.row.lt k q
  · exact h.sx.lt.2 k q
  · exact h.sy.lt.2 k q
theorem OutAt.below {w w' : World} {b : Nat} {s : OS} {vb : Value} {ob : Option Nat} {c : Nat} {oc : Option Nat} {d : Nat} {od : Option Nat} (h : OutAt w b s vb ob c oc d od) (hb : Below w.heap.size w w') : OutAt w' b s vb ob c oc d od :=
  h.keeps (Upd.below hb) (fun k hk => by have := h.lt k hk; omega)
theorem OAt.keeps {F fp : Nat → Prop} {w w' : World} {b : Nat} {s : OS} (h : OAt w b s fp) (hu : Upd F w w') (hF : ∀ k, fp k → ¬ F k) : OAt w' b s fp := by
  obtain ⟨vb, ob, c, oc, d, od, h, rfl⟩ := h
  exact ⟨vb, ob, c, oc, d, od, h.keeps hu hF, rfl⟩
theorem OAt.lt {fp : Nat → Prop} {w : World} {b : Nat} {s : OS} (h : OAt w b s fp) : fp b ∧ ∀ k, fp k → k < w.heap.size := by
  obtain ⟨vb, ob, c, oc, d, od, h, rfl⟩ := h
  exact ⟨.inl rfl, h.lt⟩
theorem OAt.below {fp : Nat → Prop} {w w' : World} {b : Nat} {s : OS} (h : OAt w b s fp) (hb : Below w.heap.size w w') : OAt w' b s fp :=
  h.keeps (Upd.below hb) (fun k hk => by have := h.lt.2 k hk; omega)
theorem OAt.ok {fp : Nat → Prop} {w : World} {b : Nat} {s : OS} (h : OAt w b s fp) : s.Ok := by
  obtain ⟨vb, ob, c, oc, d, od, h, rfl⟩ := h
  exact h.ok
/-- The numbers and flags, as cells. -/
theorem OAt.cells {fp : Nat → Prop} {w : World} {b : Nat} {s : OS} (h : OAt w b s fp) :
    w.cell? ⟨b, 1, none⟩ = some (.int .u64 s.base) ∧ w.cell? ⟨b, 2, none⟩ = some (.int .u64 s.B.length) ∧ w.cell? ⟨b, 3, none⟩ = some (.int .u64 s.sent) ∧ w.cell? ⟨b, 6, none⟩ = some (.bool s.fi) ∧
      w.cell? ⟨b, 7, none⟩ = some (.bool s.es) ∧ w.cell? ⟨b, 8, none⟩ = some (.bool s.ea) ∧ w.cell? ⟨b, 9, none⟩ = some (.bool s.el) := by
  obtain ⟨vb, ob, c, oc, d, od, h, _⟩ := h
  exact ⟨(cell_at h.blk 1).trans rfl, (cell_at h.blk 2).trans rfl, (cell_at h.blk 3).trans rfl, (cell_at h.blk 6).trans rfl, (cell_at h.blk 7).trans rfl, (cell_at h.blk 8).trans rfl, (cell_at h.blk 9).trans rfl⟩

/-- Some bytes of its own from an offset on that were known to be sent. -/
def OS.kn (s : OS) (off : Nat) (n : Int) : Nat × Nat := (min off s.sent, min s.sent (min off s.sent + n.toNat))
def atOf (xs : List Rg) (len : Nat) : Nat := if (gapL xs 0 len).2 then (gapL xs 0 len).1.1 else len
def OS.ackX (s : OS) (r : Nat × Nat) : List Rg := if r.1 < r.2 then addL many s.xs r.1 r.2 else s.xs
def OS.ack (s : OS) (off : Nat) (n : Int) (f : Bool) : OS :=
  { s with xs := s.ackX (s.kn off n), ys := trimL many (cutRaw (s.kn off n).1 (s.kn off n).2 s.ys), ea := s.ea || (f && s.es), base := atOf (s.ackX (s.kn off n)) s.B.length }
def OS.ende (s : OS) : Bool := s.fi && !s.ea && (!s.es || s.el)
def OS.part (s : OS) (limit : Nat) : Nat × Nat := match s.ys with | r :: _ => r | [] => (s.sent, max s.sent (min limit s.B.length))
/-- A piece goes. -/
def OS.goes (s : OS) (f t : Nat) : OS :=
  { s with ys := trimL many (cutRaw f t s.ys), sent := max s.sent t, es := s.es || (decide (t = s.B.length) && s.ende), el := s.el && !(decide (t = s.B.length) && s.ende) }
def OS.room (s : OS) : Nat := if s.fi then 0 else 2048 - (s.B.length - s.base)
def OS.write (s : OS) (d : List Nat) : OS := { s with B := s.B ++ d.take (min d.length s.room) }
end Go.Proofs.YtnneoeimgbemfaaGreat

/- DERIVED. Sets in memory: Len and Copy. -/
namespace Go.Proofs.YtnneoeimgbemfaaGreat
open Go.RowKit

set_option maxHeartbeats 400000 in
theorem slen_q (b : Nat) (most : Int) (og : Option Nat) (xs : List Rg) (w : World) (h : SetAt w b most og xs) :
    Calls Tryz.prog 63 #[.pointer (some ⟨b, 0, none⟩)] w fun e w' => e = .returned (.int .i64 xs.length) ∧ ∃ n, w' = w.drewN n := by
  obtain ⟨v, hb, hs, hne⟩ := h
  obtain ⟨oa, cap, hv, hcap, hcap2⟩ := hs.shape
  have c1 := cell_at hb 1
  simp at c1
  rw [hv] at c1
  clear hb hs hv
  generalize xs.length = n at *
  go_enter Tryz.func63, Tryz.ntmps63
  go_wp2
  go_ret
  exact ⟨rfl, 0, rfl⟩

end Go.Proofs.YtnneoeimgbemfaaGreat

/- DERIVED. Walks of outbuf's readers and its New. -/
namespace Go.Proofs.YtnneoeimgbemfaaGreat
open Go.RowKit

theorem SetAt.drew {w : World} {b : Nat} {m : Int} {og : Option Nat} {xs : List Rg} (h : SetAt w b m og xs) : SetAt w.drew b m og xs := h.below (Below.refl _ _).drew
theorem OAt.bd {w : World} {b : Nat} {s : OS} {fp : Nat → Prop} (h : OAt w b s fp) : s.B.length ≤ 1099511627776 ∧ s.base ≤ s.B.length ∧ s.sent ≤ s.B.length := ⟨h.ok.len, h.ok.base, h.ok.sent⟩
theorem OAt.drewN {w : World} {b : Nat} {s : OS} {fp : Nat → Prop} (h : OAt w b s fp) (n : Nat) : OAt (w.drewN n) b s fp := h.below (below_drewN (Below.refl _ _) n)

set_option maxRecDepth 100000 in
set_option maxHeartbeats 1000000 in
theorem onew_any (w : World) : Calls Tryz.prog 58 #[] w fun e w' => ∃ b fp, e = .returned (.pointer (some ⟨b, 0, none⟩)) ∧ OAt w' b OS.zero fp ∧ (∀ k, fp k → w.heap.size ≤ k) ∧ Below w.heap.size w w' := by
  go_enter Tryz.func58, Tryz.ntmps58
  go_wp2_with fail
  refine (snew_any 1048576 _).mono ?_
  rintro e w1 ⟨c, rfl, hc, h1, hb1⟩
  have H1 := Lib.hid h1
  have HB1 := Lib.hid hb1
  clear h1 hb1
  go_wp2_with fail
  refine (snew_any 1048576 _).mono ?_
  rintro e w2 ⟨d, rfl, hd, h2, hb2⟩
  have H2 := Lib.hid h2
  have HB2 := Lib.hid hb2
  clear h2 hb2
  go_wp2_with fail
  go_ret
  have s1 := H1.out.lt
  have s2 := H2.out.lt
  have z1 := HB1.out.size
  have z2 := HB2.out.size
  have hA := (Below.refl w2.heap.size w2).alloc (Nat.le_refl _) (.cells #[.slice none 0 0, .int .u64 0, .int .u64 0, .int .u64 0, .pointer (some ⟨c, 0, none⟩), .pointer (some ⟨d, 0, none⟩), .bool false, .bool false, .bool false, .bool false] 109)
  have c1 := s1.1
  have c2 := s2.1
  refine ⟨w2.heap.size, _, rfl, ⟨.slice none 0 0, none, c, none, d, none, ⟨alloc_at _ _, SlO.nil _ _ _, (H1.out.below HB2.out).below hA, H2.out.below hA, OS.zero_ok, ⟨by omega, by simp, by simp, by simp⟩, ⟨by omega, by omega, by simp, by simp⟩, ⟨by simp, by simp, by simp, by simp⟩⟩, rfl⟩, ?_, below_call HB1.out z1 (below_call HB2.out z2 hA)⟩
  rintro k (rfl | rfl | rfl | q | q | q)
  · omega
  · exact hc
  · omega
  · cases q
  · cases q
  · cases q

set_option maxHeartbeats 1000000 in
theorem osent_q (b : Nat) (s : OS) (fp : Nat → Prop) (w : World) (h : OAt w b s fp) : Calls Tryz.prog 56 #[.pointer (some ⟨b, 0, none⟩)] w fun e w' => e = .returned (.int .u64 s.sent) ∧ ∃ n, w' = w.drewN n := by
  obtain ⟨_, _, c, _⟩ := h.cells
  go_enter Tryz.func56, Tryz.ntmps56
  go_wp2_with fail
  go_ret
  exact ⟨rfl, 0, rfl⟩
set_option maxRecDepth 100000 in
set_option maxHeartbeats 1000000 in
theorem oend_q (b : Nat) (s : OS) (fp : Nat → Prop) (w : World) (h : OAt w b s fp) : Calls Tryz.prog 64 #[.pointer (some ⟨b, 0, none⟩)] w fun e w' => e = .returned (.bool s.ende) ∧ ∃ n, w' = w.drewN n := by
  obtain ⟨_, _, _, c6, c7, c8, c9⟩ := h.cells
  unfold OS.ende
  generalize s.fi = fi at *
  generalize s.es = es at *
  generalize s.ea = ea at *
  generalize s.el = el at *
  clear h
  cases fi
  all_goals cases ea
  all_goals cases es
  all_goals cases el
  all_goals go_enter Tryz.func64, Tryz.ntmps64
  all_goals go_wp2_with fail
  all_goals go_ret
  all_goals exact ⟨rfl, 0, rfl⟩
set_option maxRecDepth 100000 in
set_option maxHeartbeats 1000000 in
theorem oroom_q (b : Nat) (s : OS) (fp : Nat → Prop) (w : World) (h : OAt w b s fp) (hr : s.B.length ≤ s.base + 2048) : Calls Tryz.prog 41 #[.pointer (some ⟨b, 0, none⟩)] w fun e w' => e = .returned (.int .i64 s.room) ∧ ∃ n, w' = w.drewN n := by
  obtain ⟨c1, c2, _, c6, _⟩ := h.cells
  obtain ⟨h1, h2, _⟩ := h.bd
  unfold OS.room
  generalize s.fi = fi at *
  generalize s.B.length = len at *
  generalize s.base = base at *
  clear h
  obtain ⟨g, hg, hg2⟩ : ∃ g : Nat, (len : Int) - base = (g : Int) ∧ len - base = g := ⟨len - base, by omega, rfl⟩
  obtain ⟨r, hr2, hr3⟩ : ∃ r : Nat, (2048 : Int) - (g : Int) = (r : Int) ∧ 2048 - g = r := ⟨2048 - g, by omega, rfl⟩
  rw [hg2, hr3]
  clear hg2 hr3
  have hgb : g ≤ 2048 := by omega
  cases fi
  · go_enter Tryz.func41, Tryz.ntmps41
    go_wp2_with fail
    go_quiet (fail)
    go_wp2_with fail
    go_ret
    exact ⟨rfl, _, rfl⟩
  · go_enter Tryz.func41, Tryz.ntmps41
    go_wp2_with fail
    go_ret
    exact ⟨rfl, 0, rfl⟩
end Go.Proofs.YtnneoeimgbemfaaGreat

/- DERIVED. The buffer of bytes that go, in memory: what its calls turn. -/
namespace Go.Proofs.YtnneoeimgbemfaaGreat
open Go.RowKit

/-- From a beginning on: the buffer is as s, its blocks are those of the beginning, or new. -/
def OM (w0 w : World) (fp : Nat → Prop) (b : Nat) (s : OS) : Prop := ∃ fp', OAt w b s fp' ∧ Went fp fp' w0 w
theorem OM.refl {w : World} {fp : Nat → Prop} {b : Nat} {s : OS} (h : OAt w b s fp) : OM w w fp b s := ⟨fp, h, Went.refl _ _⟩
theorem OM.later {w0 w w' : World} {fp : Nat → Prop} {b : Nat} {s : OS} (h : OM w0 w fp b s) (hb : Below w.heap.size w w') : OM w0 w' fp b s := by
  obtain ⟨fp', h1, h2⟩ := h
  exact ⟨fp', h1.below hb, h2.later hb⟩
theorem OM.drew {w0 w : World} {fp : Nat → Prop} {b : Nat} {s : OS} (h : OM w0 w fp b s) : OM w0 w.drew fp b s := h.later (Below.refl _ _).drew
theorem OM.drewN {w0 w : World} {fp : Nat → Prop} {b : Nat} {s : OS} (h : OM w0 w fp b s) (n : Nat) : OM w0 (w.drewN n) fp b s := h.later (below_drewN (Below.refl _ _) n)
theorem om_turnD {w0 w w' : World} {fp : Nat → Prop} {b : Nat} {s : OS} {vb : Value} {ob : Option Nat} {c : Nat} {oc : Option Nat} {d : Nat} {od : Option Nat} {zs : List Rg} (h : OutAt w b s vb ob c oc d od) (hw : Went fp (OFp b c d ob oc od) w0 w) (t : Turned w d many od zs w') (hn : Norm zs) (hl : zs.length ≤ 100000) :
    OM w0 w' fp b { s with ys := zs } := by
  obtain ⟨od', h1, h2, h3⟩ := t
  obtain ⟨a1, a2, a3, a4⟩ := h.cd
  obtain ⟨b1, b2, b3, b4⟩ := h.bcd
  obtain ⟨e1, e2, e3, e4⟩ := h.obs
  have lt := h.lt
  have hnew : ∀ g, od' = some g → od = some g ∨ w.heap.size ≤ g := by
    intro g hg
    rcases h2 with rfl | rfl | ⟨g', rfl, h4⟩
    · exact .inl hg
    · cases hg
    · cases hg
      exact .inr h4
  refine ⟨OFp b c d ob oc od', ⟨vb, ob, c, oc, d, od', ⟨h3.keeps h.blk ?_, h.row.keeps h3 ?_, h.sx.keeps h3 ?_ ?_, h1, ⟨h.ok.len, h.ok.base, h.ok.sent, h.ok.nx, hn, h.ok.lx, hl, h.ok.bys⟩, ⟨a1, a2, ?_, ?_⟩, ⟨b1, b2, b3, ?_⟩, ⟨e1, e2, e3, ?_⟩⟩, rfl⟩, ⟨hw.upd.trans h3 (fun _ _ q => q) ?_, ?_⟩⟩
  · rintro (q | q)
    · exact b2 q
    · exact b4 q
  · rintro g hg (rfl | q)
    · exact e3 hg
    · exact (e4 g hg).2 q
  · rintro (q | q)
    · exact a1 q
    · exact a3 q
  · rintro g hg (rfl | q)
    · exact a2 hg
    · exact a4 g hg q
  · intro q
    rcases hnew c q with q | q
    · exact a3 q
    · have := h.sx.lt.1
      omega
  · intro g hg q
    rcases hnew g q with q | q
    · exact a4 g hg q
    · have := h.sx.lt.2 g hg
      omega
  · intro q
    rcases hnew b q with q | q
    · exact b4 q
    · have := heap_lt h.blk
      omega
  · intro g hg
    refine ⟨(e4 g hg).1, fun q => ?_⟩
    rcases hnew g q with q | q
    · exact (e4 g hg).2 q
    · have := h.row.lt g hg
      omega
  · intro j hj q
    have h5 : OFp b c d ob oc od j := by
      rcases q with rfl | q
      · exact .inr (.inr (.inl rfl))
      · exact .inr (.inr (.inr (.inr (.inr q))))
    rcases hw.new j h5 with q | q
    · exact q
    · omega
  · intro j hj
    have hs := hw.upd.size
    rcases hj with q | q | q | q | q | q
    · exact hw.new j (.inl q)
    · exact hw.new j (.inr (.inl q))
    · exact hw.new j (.inr (.inr (.inl q)))
    · exact hw.new j (.inr (.inr (.inr (.inl q))))
    · exact hw.new j (.inr (.inr (.inr (.inr (.inl q)))))
    · rcases hnew j q with q | q
      · exact hw.new j (.inr (.inr (.inr (.inr (.inr q)))))
      · right
        omega
theorem om_turnC {w0 w w' : World} {fp : Nat → Prop} {b : Nat} {s : OS} {vb : Value} {ob : Option Nat} {c : Nat} {oc : Option Nat} {d : Nat} {od : Option Nat} {zs : List Rg} (h : OutAt w b s vb ob c oc d od) (hw : Went fp (OFp b c d ob oc od) w0 w) (t : Turned w c many oc zs w') (hn : Norm zs) (hl : zs.length ≤ 100000) :
    OM w0 w' fp b { s with xs := zs } := by
  obtain ⟨oc', h1, h2, h3⟩ := t
  obtain ⟨a1, a2, a3, a4⟩ := h.cd
  obtain ⟨b1, b2, b3, b4⟩ := h.bcd
  obtain ⟨e1, e2, e3, e4⟩ := h.obs
  have hnew : ∀ g, oc' = some g → oc = some g ∨ w.heap.size ≤ g := by
    intro g hg
    rcases h2 with rfl | rfl | ⟨g', rfl, h4⟩
    · exact .inl hg
    · cases hg
    · cases hg
      exact .inr h4
  refine ⟨OFp b c d ob oc' od, ⟨vb, ob, c, oc', d, od, ⟨h3.keeps h.blk ?_, h.row.keeps h3 ?_, h1, h.sy.keeps h3 ?_ ?_, ⟨h.ok.len, h.ok.base, h.ok.sent, hn, h.ok.ny, hl, h.ok.ly, h.ok.bys⟩, ⟨a1, ?_, a3, ?_⟩, ⟨b1, b2, ?_, b4⟩, ⟨e1, e2, e3, ?_⟩⟩, rfl⟩, ⟨hw.upd.trans h3 (fun _ _ q => q) ?_, ?_⟩⟩
  · rintro (q | q)
    · exact b1 q
    · exact b3 q
  · rintro g hg (rfl | q)
    · exact e2 hg
    · exact (e4 g hg).1 q
  · rintro (q | q)
    · exact a1 q.symm
    · exact a2 q
  · rintro g hg (rfl | q)
    · exact a3 hg
    · exact a4 g q hg
  · intro q
    rcases hnew d q with q | q
    · exact a2 q
    · have := h.sy.lt.1
      omega
  · intro g hg q
    rcases hnew g hg with hg | hg
    · exact a4 g hg q
    · have := h.sy.lt.2 g q
      omega
  · intro q
    rcases hnew b q with q | q
    · exact b3 q
    · have := heap_lt h.blk
      omega
  · intro g hg
    refine ⟨fun q => ?_, (e4 g hg).2⟩
    rcases hnew g q with q | q
    · exact (e4 g hg).1 q
    · have := h.row.lt g hg
      omega
  · intro j hj q
    have h5 : OFp b c d ob oc od j := by
      rcases q with rfl | q
      · exact .inr (.inl rfl)
      · exact .inr (.inr (.inr (.inr (.inl q))))
    rcases hw.new j h5 with q | q
    · exact q
    · omega
  · intro j hj
    have hs := hw.upd.size
    rcases hj with q | q | q | q | q | q
    · exact hw.new j (.inl q)
    · exact hw.new j (.inr (.inl q))
    · exact hw.new j (.inr (.inr (.inl q)))
    · exact hw.new j (.inr (.inr (.inr (.inl q))))
    · rcases hnew j q with q | q
      · exact hw.new j (.inr (.inr (.inr (.inr (.inl q)))))
      · right
        omega
    · exact hw.new j (.inr (.inr (.inr (.inr (.inr q)))))
/-- Its own block, and its row, are set. -/
theorem om_set {w0 w w1 w' : World} {fp : Nat → Prop} {b : Nat} {s s' : OS} {vb vb' : Value} {ob ob' : Option Nat} {c : Nat} {oc : Option Nat} {d : Nat} {od : Option Nat} (h : OutAt w b s vb ob c oc d od) (hw : Went fp (OFp b c d ob oc od) w0 w)
    (h1 : Upd (fun j => ob = some j) w w1) (h2 : Upd (fun j => j = b) w1 w')
    (hblk : w'.heap[b]? = some (.cells #[vb', .int .u64 s'.base, .int .u64 s'.B.length, .int .u64 s'.sent, .pointer (some ⟨c, 0, none⟩), .pointer (some ⟨d, 0, none⟩), .bool s'.fi, .bool s'.es, .bool s'.ea, .bool s'.el] 109 (0, 0)))
    (hrow : SlO encB 1 5 w1 vb' ob' (s'.B.drop s'.base)) (hob : ob' = ob ∨ ob' = none ∨ ∃ g, ob' = some g ∧ w.heap.size ≤ g) (hx : s'.xs = s.xs) (hy : s'.ys = s.ys) (hok : s'.Ok) : OM w0 w' fp b s' := by
  obtain ⟨b1, b2, b3, b4⟩ := h.bcd
  obtain ⟨e1, e2, e3, e4⟩ := h.obs
  have hnew : ∀ g, ob' = some g → ob = some g ∨ w.heap.size ≤ g := by
    intro g hg
    rcases hob with rfl | rfl | ⟨g', rfl, h4⟩
    · exact .inl hg
    · cases hg
    · cases hg
      exact .inr h4
  have hap : ∀ j, j < w.heap.size → ob ≠ some j → ob' ≠ some j := by
    intro j hj h1 h2
    rcases hnew j h2 with q | q
    · exact h1 q
    · omega
  have hb := heap_lt h.blk
  have h12 : Upd (fun j => ob = some j ∨ j = b) w w' := h1.trans h2 (fun _ _ q => .inl q) (fun _ _ q => .inr q)
  refine ⟨OFp b c d ob' oc od, ⟨vb', ob', c, oc, d, od, ⟨hblk, hrow.keeps h2 ?_, ?_, ?_, hok, h.cd, h.bcd, ⟨hap b hb e1, hap c h.sx.lt.1 e2, hap d h.sy.lt.1 e3, ?_⟩⟩, rfl⟩, ⟨hw.upd.trans h12 (fun _ _ q => q) ?_, ?_⟩⟩
  · rintro g hg rfl
    exact hap _ hb e1 hg
  · rw [hx]
    refine h.sx.keeps h12 ?_ ?_
    · rintro (q | q)
      · exact e2 q
      · exact b1 q.symm
    · rintro g hg (q | rfl)
      · exact (e4 g q).1 hg
      · exact b3 hg
  · rw [hy]
    refine h.sy.keeps h12 ?_ ?_
    · rintro (q | q)
      · exact e3 q
      · exact b2 q.symm
    · rintro g hg (q | rfl)
      · exact (e4 g q).2 hg
      · exact b4 hg
  · intro g hg
    refine ⟨fun q => ?_, fun q => ?_⟩
    · rcases hnew g hg with hg | hg
      · exact (e4 g hg).1 q
      · have := h.sx.lt.2 g q
        omega
    · rcases hnew g hg with hg | hg
      · exact (e4 g hg).2 q
      · have := h.sy.lt.2 g q
        omega
  · intro j hj q
    have h5 : OFp b c d ob oc od j := by
      rcases q with q | rfl
      · exact .inr (.inr (.inr (.inl q)))
      · exact .inl rfl
    rcases hw.new j h5 with q | q
    · exact q
    · omega
  · intro j hj
    have hs := hw.upd.size
    rcases hj with q | q | q | q | q | q
    · exact hw.new j (.inl q)
    · exact hw.new j (.inr (.inl q))
    · exact hw.new j (.inr (.inr (.inl q)))
    · rcases hnew j q with q | q
      · exact hw.new j (.inr (.inr (.inr (.inl q))))
      · right
        omega
    · exact hw.new j (.inr (.inr (.inr (.inr (.inl q)))))
    · exact hw.new j (.inr (.inr (.inr (.inr (.inr q)))))
end Go.Proofs.YtnneoeimgbemfaaGreat

/- DERIVED. Walks of outbuf's part; slices.Clone of bytes. -/
namespace Go.Proofs.YtnneoeimgbemfaaGreat
open Go.RowKit

set_option maxRecDepth 100000 in
set_option maxHeartbeats 1000000 in
theorem opart_nil (b : Nat) (s : OS) (fp : Nat → Prop) (limit t : Nat) (w : World) (h : OAt w b s fp) (hlim : limit < 18446744073709551616) (hys : s.ys = []) (ht : max s.sent (min limit s.B.length) = t) :
    Calls Tryz.prog 62 #[.pointer (some ⟨b, 0, none⟩), .int .u64 limit] w fun e w' => e = .returned (.tuple #[.int .u64 s.sent, .int .u64 t]) ∧ Below w.heap.size w w' := by
  obtain ⟨vb, ob, c, oc, d, od, hO, hfp⟩ := h
  have c5 : w.cell? ⟨b, 5, none⟩ = some (.pointer (some ⟨d, 0, none⟩)) := (cell_at hO.blk 5).trans rfl
  have HO := Lib.hid hO
  have hls := hO.ok.sent
  have hll := hO.ok.len
  have HY := Lib.hid hys
  have HC := Lib.hid (show ∀ W, Below w.heap.size w W → W.cell? ⟨b, 2, none⟩ = some (.int .u64 s.B.length) ∧ W.cell? ⟨b, 3, none⟩ = some (.int .u64 s.sent) from fun W hb => by
    have hk := below_keeps hb hO.blk (heap_lt hO.blk)
    exact ⟨(cell_at hk 2).trans rfl, (cell_at hk 3).trans rfl⟩)
  clear hO hfp hys
  generalize s.sent = sent at *
  generalize s.B.length = len at *
  go_enter Tryz.func62, Tryz.ntmps62
  go_wp2_with fail
  refine (all_any d many od s.ys _ (by exact HO.out.sy) (by rw [HY.out]; simp)).mono ?_
  rw [HY.out]
  rintro e w1 ⟨v, og, rfl, hs, hnew, hb⟩
  obtain ⟨oa, cap, rfl, hc1, hc2⟩ := hs.shape
  have HB := Lib.hid hb
  obtain ⟨c2, c3⟩ := HC.out _ hb
  clear hs hb hnew c5
  simp only [List.length_nil] at *
  go_wp2_with fail
  go_loopw [14] (fun i wr => i = .int .i64 0 ∧ wr = w1) (fun _ _ => 0)
  case atStart => exact ⟨rfl, rfl⟩
  case round =>
    obtain ⟨rfl, rfl⟩ := hrel
    rcases (by omega : ((limit < len ∧ sent < limit ∧ t = limit) ∨ (limit < len ∧ ¬ sent < limit ∧ t = sent) ∨ (len < limit ∧ sent < len ∧ t = len) ∨ (len < limit ∧ ¬ sent < len ∧ t = sent)) ∨ (limit = len ∧ sent < len ∧ t = len) ∨ (limit = len ∧ ¬ sent < len ∧ t = sent)) with (⟨q1, q2, q3⟩ | ⟨q1, q2, q3⟩ | ⟨q1, q2, q3⟩ | ⟨q1, q2, q3⟩) | ⟨q1, q2, q3⟩ | ⟨q1, q2, q3⟩
    all_goals subst q3
    all_goals try subst q1
    all_goals clear ht
    all_goals go_wp2_with fail
    all_goals go_quiet (fail)
    all_goals go_wp2_with fail
    all_goals go_ret2
    all_goals exact ⟨rfl, below_drewN HB.out _⟩
end Go.Proofs.YtnneoeimgbemfaaGreat
