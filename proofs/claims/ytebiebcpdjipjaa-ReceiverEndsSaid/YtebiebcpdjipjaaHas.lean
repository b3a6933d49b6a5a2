/- DERIVED. Walk of the set's Has. -/
import Derived.Test.YtebiebcpdjipjaaFind
import Derived.Deep.RegionWith
import Derived.Deep.CutBlock
import Derived.Deep.DeepCutAuto
namespace Go.Proofs.Ytebiebcpdjipjaa
open Go.RowKit

set_option maxHeartbeats 400000 in
theorem has_fn (n c : Nat) (r : Rg) (w : World) (hc : w.cell? ⟨c, 0, none⟩ = some (.int .u64 n)) :
    Calls Try.prog 58 #[.agg #[.int .u64 r.1, .int .u64 r.2], .pointer (some ⟨c, 0, none⟩)] w fun e w' => e = .returned (.bool (hasP n r)) ∧ Below w.heap.size w w' := by
  have ha := fun o => Lib.cell?_alloc_some o hc
  by_cases h1 : r.1 ≤ n
  all_goals by_cases h2 : n < r.2
  all_goals
    go_enter Try.func58, Try.ntmps58
    go_wp2
    go_ret
    exact ⟨fn_end (by simp [hasP, h1, h2]; try omega), (Below.refl _ _).alloc (Nat.le_refl _) _⟩

set_option maxRecDepth 100000 in
set_option maxHeartbeats 400000 in
theorem index_has (n c : Nat) (v : Value) (og : Option Nat) (xs : List Rg) (w : World) (hs : Sl w v og xs) (hc : w.cell? ⟨c, 0, none⟩ = some (.int .u64 n)) :
    Calls Try.prog 72 #[v, .func (.func 58) #[] #[.pointer (some ⟨c, 0, none⟩)]] w
      fun e w' => ∃ z : Int, e = .returned (.int .i64 z) ∧ decide (0 ≤ z) = xs.any (hasP n) ∧ Below w.heap.size w w' := by
  obtain ⟨oa, cap, rfl, hcap, hcap2⟩ := hs.shape
  have HS := Lib.hid hs
  have HC := Lib.hid hc
  clear hs hc
  generalize hn : xs.length = len at *
  have HN := Lib.hid hn
  clear hn
  go_enter Try.func72, Try.ntmps72
  go_wp2_with fail
  go_loopw [8] (fun i wr => ∃ k : Nat, i = .int .i64 k ∧ k ≤ len ∧ (xs.take k).any (hasP n) = false ∧ Below w.heap.size w wr) (fun i _ => len - (intOf i).toNat)
  case atStart => exact ⟨0, rfl, by omega, by simp, Below.refl _ _⟩
  case round =>
    obtain ⟨k, rfl, hk, hany, hb⟩ := hrel
    have HA := Lib.hid hany
    have HB := Lib.hid hb
    clear hany hb
    by_cases hlt : k < len
    · obtain ⟨r, hr⟩ : ∃ r, xs[k]? = some r := ⟨_, List.getElem?_eq_getElem (by rw [HN.out]; exact hlt)⟩
      obtain ⟨g, hog, rfl, hgl, c0, c1⟩ := HS.out.atS hr
      have HR := Lib.hid hr
      have d0 := (HB.out.cell (p := ⟨g, k * 2, none⟩) hgl).trans c0
      have d1 := (HB.out.cell (p := ⟨g, k * 2 + 1, none⟩) hgl).trans c1
      clear c0 c1 hog hr
      have hcl := cell_in HC.out
      have hfn := Lib.hid (has_fn n c r wr ((HB.out.cell (p := ⟨c, 0, none⟩) hcl).trans HC.out))
      cases hp : hasP n r
      all_goals go_wp2_with fail
      all_goals (refine hfn.out.mono ?_; rintro e w' ⟨rfl, hb'⟩)
      all_goals (have HB' := Lib.hid (below_call HB.out HB.out.size hb'))
      all_goals clear hb'
      · rw [hp]
        go_wp2
        go_roundw
        case rel => exact ⟨k + 1, by go_num, by omega, by rw [take_any HR.out, HA.out, hp]; rfl, HB'.out⟩
        case measure => simp [intOf]; omega
      · rw [hp]
        go_wp2
        go_ret
        refine ⟨k, rfl, ?_, HB'.out⟩
        have h1 : xs.any (hasP n) = true := List.any_eq_true.2 ⟨r, List.mem_of_getElem? HR.out, hp⟩
        rw [h1]
        simp
    · go_wp2
      go_ret
      refine ⟨-1, rfl, ?_, HB.out⟩
      have := HA.out
      rw [List.take_of_length_le (by rw [HN.out]; omega)] at this
      rw [this]
      rfl
set_option maxHeartbeats 400000 in
theorem contains_has (n c : Nat) (v : Value) (og : Option Nat) (xs : List Rg) (w : World) (hs : Sl w v og xs) (hc : w.cell? ⟨c, 0, none⟩ = some (.int .u64 n)) :
    Calls Try.prog 57 #[v, .func (.func 58) #[] #[.pointer (some ⟨c, 0, none⟩)]] w
      fun e w' => e = .returned (.bool (xs.any (hasP n))) ∧ Below w.heap.size w w' := by
  have HI := Lib.hid (index_has n c v og xs w hs hc)
  clear hs hc
  go_enter Try.func57, Try.ntmps57
  go_wp2_with fail
  refine HI.out.mono ?_
  rintro e w' ⟨z, rfl, hz, hb⟩
  have HZ := Lib.hid hz
  have HB := Lib.hid hb
  clear hz hb
  go_wp2
  go_ret
  exact ⟨fn_end HZ.out, HB.out⟩


set_option maxHeartbeats 400000 in
theorem shas_any (b : Nat) (most : Int) (og : Option Nat) (xs : List Rg) (n : Nat) (w : World) (h : SetAt w b most og xs) :
    Calls Try.prog 43 #[.pointer (some ⟨b, 0, none⟩), .int .u64 n] w fun e w' => e = .returned (.bool (xs.any (hasP n))) ∧ Below w.heap.size w w' := by
  obtain ⟨v, hb, hs, hne⟩ := h
  have c1 := cell_at hb 1
  simp at c1
  have ha := fun o => Lib.cell?_alloc_some o c1
  have HS := Lib.hid hs
  clear hb hs
  go_enter Try.func43, Try.ntmps43
  go_wp2_with fail
  refine (contains_has n w.heap.size v og xs _ (HS.out.below ((Below.refl _ _).alloc (Nat.le_refl _) _)) (by simp)).mono ?_
  rintro e w' ⟨rfl, hb⟩
  have HB := Lib.hid (below_call ((Below.refl w.heap.size w).alloc (Nat.le_refl _) _) (by simp) hb)
  clear hb ha c1
  go_wp2
  go_ret
  exact ⟨rfl, HB.out⟩

end Go.Proofs.Ytebiebcpdjipjaa
