/- DERIVED. slices.IndexFunc and slices.ContainsFunc with the two closures of ranges. -/
import Derived.Test.YtebiebcpdjipjaaSet
namespace Go.Proofs.Ytebiebcpdjipjaa
open Go.RowKit
set_option maxHeartbeats 400000 in
theorem meet_fn (lo hi c d : Nat) (r : Rg) (w : World) (hc : w.cell? ⟨c, 0, none⟩ = some (.int .u64 lo)) (hd : w.cell? ⟨d, 0, none⟩ = some (.int .u64 hi)) :
    Calls Try.prog 61 #[.agg #[.int .u64 r.1, .int .u64 r.2], .pointer (some ⟨d, 0, none⟩), .pointer (some ⟨c, 0, none⟩)] w fun e w' => e = .returned (.bool (meetP lo hi r)) ∧ Below w.heap.size w w' := by
  have ha := fun o => Lib.cell?_alloc_some o hc
  have hb := fun o => Lib.cell?_alloc_some o hd
  by_cases h1 : r.1 < hi
  all_goals by_cases h2 : lo < r.2
  all_goals
    go_enter Try.func61, Try.ntmps61
    go_wp2
    go_ret
    exact ⟨fn_end (by simp [meetP, h1, h2]; try omega), (Below.refl _ _).alloc (Nat.le_refl _) _⟩

set_option maxRecDepth 100000 in
set_option maxHeartbeats 400000 in
theorem index_meet (lo hi c d : Nat) (v : Value) (og : Option Nat) (xs : List Rg) (w : World) (hs : Sl w v og xs) (hc : w.cell? ⟨c, 0, none⟩ = some (.int .u64 lo)) (hd : w.cell? ⟨d, 0, none⟩ = some (.int .u64 hi)) :
    Calls Try.prog 72 #[v, .func (.func 61) #[] #[.pointer (some ⟨d, 0, none⟩), .pointer (some ⟨c, 0, none⟩)]] w
      fun e w' => ∃ z : Int, e = .returned (.int .i64 z) ∧ decide (0 ≤ z) = xs.any (meetP lo hi) ∧ Below w.heap.size w w' := by
  obtain ⟨oa, cap, rfl, hcap, hcap2⟩ := hs.shape
  have HS := Lib.hid hs
  have HC := Lib.hid hc
  have HD := Lib.hid hd
  clear hs hc hd
  generalize hn : xs.length = len at *
  have HN := Lib.hid hn
  clear hn
  go_enter Try.func72, Try.ntmps72
  go_wp2_with fail
  go_loopw [8] (fun i wr => ∃ k : Nat, i = .int .i64 k ∧ k ≤ len ∧ (xs.take k).any (meetP lo hi) = false ∧ Below w.heap.size w wr) (fun i _ => len - (intOf i).toNat)
  case atStart => exact ⟨0, rfl, by omega, by simp, Below.refl _ _⟩
  case round =>
    obtain ⟨k, rfl, hk, hany, hb⟩ := hrel
    have HA := Lib.hid hany
    have HB := Lib.hid hb
    clear hany hb
    by_cases hlt : k < len
    · obtain ⟨r, hr⟩ : ∃ r, xs[k]? = some r := ⟨_, List.getElem?_eq_getElem (by rw [HN.out]; exact hlt)⟩
      obtain ⟨g, hog, rfl, hgl, c0, c1⟩ := HS.out.atS hr
      have HR := Lib.hid hr
      have d0 := (HB.out.cell (p := ⟨g, k * 2, none⟩) hgl).trans c0
      have d1 := (HB.out.cell (p := ⟨g, k * 2 + 1, none⟩) hgl).trans c1
      clear c0 c1 hog hr
      have hcl := cell_in HC.out
      have hdl := cell_in HD.out
      have hfn := Lib.hid (meet_fn lo hi c d r wr ((HB.out.cell (p := ⟨c, 0, none⟩) hcl).trans HC.out) ((HB.out.cell (p := ⟨d, 0, none⟩) hdl).trans HD.out))
      cases hp : meetP lo hi r
      all_goals go_wp2_with fail
      all_goals (refine hfn.out.mono ?_; rintro e w' ⟨rfl, hb'⟩)
      all_goals (have HB' := Lib.hid (below_call HB.out HB.out.size hb'))
      all_goals clear hb'
      · rw [hp]
        go_wp2
        go_roundw
        case rel => exact ⟨k + 1, by go_num, by omega, by rw [take_any HR.out, HA.out, hp]; rfl, HB'.out⟩
        case measure => simp [intOf]; omega
      · rw [hp]
        go_wp2
        go_ret
        refine ⟨k, rfl, ?_, HB'.out⟩
        have h1 : xs.any (meetP lo hi) = true := List.any_eq_true.2 ⟨r, List.mem_of_getElem? HR.out, hp⟩
        rw [h1]
        simp
    · go_wp2
      go_ret
      refine ⟨-1, rfl, ?_, HB.out⟩
      have := HA.out
      rw [List.take_of_length_le (by rw [HN.out]; omega)] at this
      rw [this]
      rfl

set_option maxHeartbeats 400000 in
theorem contains_meet (lo hi c d : Nat) (v : Value) (og : Option Nat) (xs : List Rg) (w : World) (hs : Sl w v og xs) (hc : w.cell? ⟨c, 0, none⟩ = some (.int .u64 lo)) (hd : w.cell? ⟨d, 0, none⟩ = some (.int .u64 hi)) :
    Calls Try.prog 57 #[v, .func (.func 61) #[] #[.pointer (some ⟨d, 0, none⟩), .pointer (some ⟨c, 0, none⟩)]] w
      fun e w' => e = .returned (.bool (xs.any (meetP lo hi))) ∧ Below w.heap.size w w' := by
  have HI := Lib.hid (index_meet lo hi c d v og xs w hs hc hd)
  clear hs hc hd
  go_enter Try.func57, Try.ntmps57
  go_wp2_with fail
  refine HI.out.mono ?_
  rintro e w' ⟨z, rfl, hz, hb⟩
  have HZ := Lib.hid hz
  have HB := Lib.hid hb
  clear hz hb
  go_wp2
  go_ret
  exact ⟨fn_end HZ.out, HB.out⟩
end Go.Proofs.Ytebiebcpdjipjaa
