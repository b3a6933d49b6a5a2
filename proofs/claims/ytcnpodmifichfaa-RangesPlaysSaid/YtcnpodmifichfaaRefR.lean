/- DERIVED. The reference's readers of a list of ranges: Same, Count, Has, Some. -/
import Derived.Test.YtcnpodmifichfaaCut
namespace Go.Proofs.Ytcnpodmifichfaa
open Go.RowKit

set_option maxRecDepth 100000 in
set_option maxHeartbeats 1000000 in
theorem rsame_q (v u : Value) (og oh : Option Nat) (xs : List Rg) (w : World) (h : Sl w v og xs) (h' : Sl w u oh xs) :
    Calls Try.prog 11 #[v, u] w fun e w' => e = .returned (.bool true) ∧ ∃ n, w' = w.drewN n := by
  obtain ⟨oa, cap, rfl, hcap, hcap2⟩ := h.shape
  obtain ⟨ob, cap', rfl, hcap3, hcap4⟩ := h'.shape
  have HS := Lib.hid h
  have HS2 := Lib.hid h'
  clear h h'
  generalize hn : xs.length = len at *
  have HN := Lib.hid hn
  clear hn
  go_enter Try.func11, Try.ntmps11
  go_wp2_with fail
  go_loopw [5] (fun i wr => ∃ k q : Nat, i = .int .i64 k ∧ k ≤ len ∧ wr = w.drewN q) (fun i _ => len - (intOf i).toNat)
  case atStart => exact ⟨0, 0, rfl, by omega, rfl⟩
  case round =>
    obtain ⟨k, q, rfl, hk, rfl⟩ := hrel
    by_cases hlt : k < len
    · obtain ⟨r, hr⟩ : ∃ r, xs[k]? = some r := ⟨_, List.getElem?_eq_getElem (by rw [HN.out]; exact hlt)⟩
      obtain ⟨g, hog, rfl, hgl, c0, c1⟩ := HS.out.atS hr
      obtain ⟨g', hog', rfl, hgl', d0, d1⟩ := HS2.out.atS hr
      clear hr hog hog'
      go_wp2_with fail
      go_quiet (fail)
      go_wp2
      go_roundw
      case rel => exact ⟨k + 1, _, by go_num, by omega, rfl⟩
      case measure => simp [intOf]; omega
    · go_wp2
      go_ret
      exact ⟨rfl, q, rfl⟩

set_option maxRecDepth 100000 in
set_option maxHeartbeats 1000000 in
theorem rcount_q (v : Value) (og : Option Nat) (xs : List Rg) (w : World) (h : Sl w v og xs) (hx : Norm xs) :
    Calls Try.prog 40 #[v] w fun e w' => e = .returned (.int .u64 (cntL xs)) ∧ ∃ n, w' = w.drewN n := by
  obtain ⟨oa, cap, rfl, hcap, hcap2⟩ := h.shape
  have HS := Lib.hid h
  have HX := Lib.hid hx
  clear h hx
  generalize hn : xs.length = len at *
  have HN := Lib.hid hn
  clear hn
  go_enter Try.func40, Try.ntmps40
  go_wp2_with fail
  go_loopw [3, 4] (fun a i wr => ∃ k q : Nat, i = .int .i64 k ∧ k ≤ len ∧ a = .int .u64 (cntL (xs.take k)) ∧ wr = w.drewN q) (fun _ i _ => len - (intOf i).toNat)
  case atStart => exact ⟨0, 0, rfl, by omega, rfl, rfl⟩
  case round =>
    obtain ⟨k, q, rfl, hk, rfl, rfl⟩ := hrel
    have hle := cntL_le (HX.out.take k)
    by_cases hlt : k < len
    · obtain ⟨r, hr⟩ : ∃ r, xs[k]? = some r := ⟨_, List.getElem?_eq_getElem (by rw [HN.out]; exact hlt)⟩
      obtain ⟨hr1, hr2⟩ := HX.out.at hr
      obtain ⟨g, hog, rfl, hgl, c0, c1⟩ := HS.out.atS hr
      have ht := cntL_take hr
      generalize cntL (xs.take k) = a at *
      have HT := Lib.hid ht
      have f1 : IntKind.u64.wrap ((a : Int) + r.2) = (a : Int) + r.2 := IntWalk.u64_in _ (by omega)
      have f2 : IntKind.u64.wrap ((a : Int) + r.2 - r.1) = (a : Int) + r.2 - r.1 := IntWalk.u64_in _ (by omega)
      clear hr hog ht
      go_wp2_with fail
      go_quiet (fail)
      go_wp2
      go_roundw
      case rel => exact ⟨k + 1, _, by go_num, by omega, by rw [HT.out]; go_num, rfl⟩
      case measure => simp [intOf]; omega
    · go_wp2
      go_ret
      rw [List.take_of_length_le (by rw [HN.out]; omega)]
      exact ⟨rfl, q, rfl⟩

set_option maxRecDepth 100000 in
set_option maxHeartbeats 1000000 in
theorem rhas_q (v : Value) (og : Option Nat) (xs : List Rg) (n : Nat) (w : World) (h : Sl w v og xs) :
    Calls Try.prog 41 #[v, .int .u64 n] w fun e w' => e = .returned (.bool (xs.any (hasP n))) ∧ ∃ n, w' = w.drewN n := by
  obtain ⟨oa, cap, rfl, hcap, hcap2⟩ := h.shape
  have HS := Lib.hid h
  clear h
  generalize hn : xs.length = len at *
  have HN := Lib.hid hn
  clear hn
  go_enter Try.func41, Try.ntmps41
  go_wp2_with fail
  go_loopw [5] (fun i wr => ∃ k q : Nat, i = .int .i64 k ∧ k ≤ len ∧ (xs.take k).any (hasP n) = false ∧ wr = w.drewN q) (fun i _ => len - (intOf i).toNat)
  case atStart => exact ⟨0, 0, rfl, by omega, by simp, rfl⟩
  case round =>
    obtain ⟨k, q, rfl, hk, hany, rfl⟩ := hrel
    have HA := Lib.hid hany
    clear hany
    by_cases hlt : k < len
    · obtain ⟨r, hr⟩ : ∃ r, xs[k]? = some r := ⟨_, List.getElem?_eq_getElem (by rw [HN.out]; exact hlt)⟩
      obtain ⟨g, hog, rfl, hgl, c0, c1⟩ := HS.out.atS hr
      have HR := Lib.hid hr
      clear hr hog
      by_cases h1 : r.1 ≤ n
      · by_cases h2 : n < r.2
        · go_wp2
          go_ret
          have h1 : xs.any (hasP n) = true := List.any_eq_true.2 ⟨r, List.mem_of_getElem? HR.out, by simp [hasP, h1, h2]⟩
          rw [h1]
          exact ⟨rfl, _, rfl⟩
        · go_wp2
          go_roundw
          case rel => exact ⟨k + 1, _, by go_num, by omega, by rw [take_any HR.out, HA.out]; simp [hasP]; omega, rfl⟩
          case measure => simp [intOf]; omega
      · go_wp2
        go_roundw
        case rel => exact ⟨k + 1, _, by go_num, by omega, by rw [take_any HR.out, HA.out]; simp [hasP]; omega, rfl⟩
        case measure => simp [intOf]; omega
    · go_wp2
      go_ret
      have := HA.out
      rw [List.take_of_length_le (by rw [HN.out]; omega)] at this
      rw [this]
      exact ⟨rfl, q, rfl⟩

set_option maxRecDepth 100000 in
set_option maxHeartbeats 1000000 in
theorem rsome_q (v : Value) (og : Option Nat) (xs : List Rg) (lo hi : Nat) (w : World) (h : Sl w v og xs) (hx : Norm xs) (hl : lo < hi) :
    Calls Try.prog 28 #[v, .int .u64 lo, .int .u64 hi] w fun e w' => e = .returned (.bool (xs.any (meetP lo hi))) ∧ ∃ n, w' = w.drewN n := by
  obtain ⟨oa, cap, rfl, hcap, hcap2⟩ := h.shape
  have HS := Lib.hid h
  have HX := Lib.hid hx
  clear h hx
  generalize hn : xs.length = len at *
  have HN := Lib.hid hn
  clear hn
  go_enter Try.func28, Try.ntmps28
  go_wp2_with fail
  go_loopw [7] (fun i wr => ∃ k q : Nat, i = .int .i64 k ∧ k ≤ len ∧ (xs.take k).any (meetP lo hi) = false ∧ wr = w.drewN q) (fun i _ => len - (intOf i).toNat)
  case atStart => exact ⟨0, 0, rfl, by omega, by simp, rfl⟩
  case round =>
    obtain ⟨k, q, rfl, hk, hany, rfl⟩ := hrel
    have HA := Lib.hid hany
    clear hany
    by_cases hlt : k < len
    · obtain ⟨r, hr⟩ : ∃ r, xs[k]? = some r := ⟨_, List.getElem?_eq_getElem (by rw [HN.out]; exact hlt)⟩
      obtain ⟨hr1, hr2⟩ := HX.out.at hr
      obtain ⟨g, hog, rfl, hgl, c0, c1⟩ := HS.out.atS hr
      have HR := Lib.hid hr
      clear hr hog
      by_cases h3 : r.1 < hi ∧ lo < r.2
      · have hp : meetP lo hi r = true := by simp [meetP, h3.1, h3.2]
        have h5 : xs.any (meetP lo hi) = true := List.any_eq_true.2 ⟨r, List.mem_of_getElem? HR.out, hp⟩
        have H5 := Lib.hid h5
        clear h5 hp
        by_cases h1 : r.1 < lo
        all_goals by_cases h2 : hi < r.2
        all_goals go_wp2_with fail
        all_goals go_quiet (fail)
        all_goals go_wp2
        all_goals go_ret
        all_goals exact ⟨by rw [H5.out]; rfl, _, World.drewN_drewN _ _ _⟩
      · have hp : meetP lo hi r = false := by simp [meetP]; omega
        have HP := Lib.hid hp
        clear hp
        by_cases h1 : r.1 < lo
        all_goals by_cases h2 : hi < r.2
        all_goals go_wp2_with fail
        all_goals go_quiet (fail)
        all_goals go_wp2
        all_goals go_roundw
        all_goals first | rfl | (refine ⟨k + 1, _, ?_, ?_, ?_, rfl⟩; (go_num); omega; rw [take_any HR.out, HA.out, HP.out]; try rfl) | (simp [intOf]; try omega)
    · go_wp2
      go_ret
      have := HA.out
      rw [List.take_of_length_le (by rw [HN.out]; omega)] at this
      rw [this]
      exact ⟨rfl, q, rfl⟩
end Go.Proofs.Ytcnpodmifichfaa
