/- DERIVED. The reference's least. -/
import Derived.Test.YtcnpodmifichfaaRefG
namespace Go.Proofs.Ytcnpodmifichfaa
open Go.RowKit

/-- A list that is the old one's row, or a new one, and reads as ys. -/
def Kept (w : World) (og : Option Nat) (ys : List Rg) (e : Ending) (w' : World) : Prop :=
  ∃ v' og', e = .returned v' ∧ Sl w' v' og' ys ∧ (og' = og ∨ ∀ g, og' = some g → w.heap.size ≤ g) ∧ Below w.heap.size w w'

set_option maxRecDepth 100000 in
set_option maxHeartbeats 1000000 in
theorem least_any (v : Value) (og : Option Nat) (xs : List Rg) (m : Int) (w : World) (h : Sl w v og xs) (hm : m ≤ 9223372036854775807) (hm2 : -9223372036854775808 ≤ m) (hl : xs.length * 16 + 16 ≤ 140737488355328) :
    Calls Try.prog 36 #[v, .int .i64 m] w (Kept w og (trimL (mostOf m) xs)) := by
  obtain ⟨i0, hi, hz0, hz1, hz2⟩ := info_parts infoR
  obtain ⟨oa, cap, rfl, hcap, hcap2⟩ := h.shape
  have HS := Lib.hid h
  clear h
  generalize hn : xs.length = n at *
  have HN := Lib.hid hn
  clear hn
  obtain ⟨x, hx⟩ : ∃ x : Nat, mostOf m = (x : Int) := ⟨(mostOf m).toNat, by have := mostOf_pos m; omega⟩
  have hx1 : 1 ≤ x := by have := mostOf_pos m; omega
  have hxm : (m ≤ 1 ∧ x = 1) ∨ (1 < m ∧ m = x) := by
    unfold mostOf at hx
    split at hx <;> omega
  have HX := Lib.hid hx
  clear hx
  by_cases hle : n ≤ x
  · have e : trimL (mostOf m) xs = xs := by
      unfold trimL
      rw [HN.out, HX.out, show n - (x : Int).toNat = 0 by omega, List.drop_zero]
    have HE := Lib.hid e
    clear e
    go_enter Try.func36, Try.ntmps36
    go_upto_region 1 with fail
    go_cut [1] (fun mv wx => mv = .int .i64 x ∧ wx = w.drewN 0)
    case first =>
      rcases (show m < 1 ∨ m = 1 ∨ 1 < m by omega) with h1 | h1 | h1
      all_goals
        go_wp2
        go_meet
        exact ⟨by rcases hxm with ⟨h2, h3⟩ | ⟨h2, h3⟩ <;> go_num, rfl⟩
    case rest =>
      obtain ⟨rfl, hwc⟩ := hcut
      replace hwc : wc = w := hwc
      subst hwc
      go_wp2
      go_ret
      exact ⟨_, og, rfl, by rw [HE.out]; exact HS.out, .inl rfl, Below.refl _ _⟩
  · obtain ⟨d, hd⟩ : ∃ d : Nat, n = d + x := ⟨n - x, by omega⟩
    rcases HS.out with ⟨hv0, hx0, _⟩ | ⟨g, ys, rfl, hv2, hr, hl2⟩
    · have := HN.out
      rw [hx0] at this
      simp at this
      omega
    · have e2 : oa = some ⟨g, 0, none⟩ ∧ cap = n + ys.length := by
        simp only [Value.slice.injEq, HN.out] at hv2
        exact ⟨hv2.1, hv2.2.2⟩
      obtain ⟨rfl, rfl⟩ := e2
      subst hd
      generalize hny : ys.length = ny at *
      have HNY := Lib.hid hny
      have HG1 := Lib.hid (show Row encR (w.alloc (.cells #[] 34)) 34 g (xs ++ ys) from alloc_old hr)
      have hrow0 : Row encR (w.alloc (.cells #[] 34)) 34 w.heap.size ([] : List Rg) := alloc_at _ _
      have HR0 := Lib.hid hrow0
      have HB := Lib.hid ((Below.refl w.heap.size w).alloc (Nat.le_refl _) (.cells #[] 34))
      have HSZ := Lib.hid (show (w.alloc (.cells #[] 34)).heap.size = w.heap.size + 1 by simp)
      have e : trimL (mostOf m) xs = ((xs ++ ys).drop d).take x := by
        unfold trimL
        rw [HN.out, HX.out, show d + x - (x : Int).toNat = d by omega, List.drop_append_of_le_length (by rw [HN.out]; omega), List.take_append_of_le_length (by rw [List.length_drop, HN.out]; omega), List.take_of_length_le (by rw [List.length_drop, HN.out]; omega)]
      have HE := Lib.hid e
      have HLX := Lib.hid (show (((xs ++ ys).drop d).take x).length = x by rw [List.length_take, List.length_drop, List.length_append, HN.out]; omega)
      clear hv2 hr hrow0 hny e HS hl2
      go_enter Try.func36, Try.ntmps36
      go_upto_region 1 with fail
      go_cut [1] (fun mv wx => mv = .int .i64 x ∧ wx = w.drewN 0)
      case first =>
        rcases (show m < 1 ∨ m = 1 ∨ 1 < m by omega) with h1 | h1 | h1
        all_goals
          go_wp2
          go_meet
          exact ⟨by rcases hxm with ⟨h2, h3⟩ | ⟨h2, h3⟩ <;> go_num, rfl⟩
      case rest =>
        obtain ⟨rfl, hwc⟩ := hcut
        replace hwc : wc = w := hwc
        subst hwc
        clear hxm hcap
        go_wp2_with (refine wpList_append_fresh encR_len Try.underlying35 hi hz1 hz0 zeroR rfl (.tmp 11) (.tmp 17) rfl (by exact HR0.out) (by exact HG1.out) 0 d rfl rfl rfl rfl ?c1 ?c2 ?c3 ?c4 ?c5 ?c6 ?_)
        case c1 => omega
        case c2 => simp
        case c3 => rw [List.length_append, HN.out]; omega
        case c4 => omega
        case c5 => omega
        case c6 => rw [hz2]; omega
        intro W1 cap hW1 hc1 hc2 hB1 hsz
        have H1 := Lib.hid (show RowR W1 (wc.heap.size + 1) ((xs ++ ys).drop d |>.take x |>.append (List.replicate (cap - x) (0, 0))) by simpa using hW1)
        have B1 := Lib.hid (below_call HB.out (by simp) (show Below (wc.alloc (.cells #[] 34)).heap.size (wc.alloc (.cells #[] 34)) W1 by simpa using hB1))
        have C1 := Lib.hid (show x ≤ cap ∧ cap ≤ 9223372036854775807 from ⟨by omega, hc2⟩)
        clear hW1 hc1 hc2 hB1 hsz
        go_wp2
        go_ret
        refine ⟨_, some (wc.heap.size + 1), rfl, .inr ⟨wc.heap.size + 1, List.replicate (cap - x) (0, 0), rfl, ?_, ?_, ?_⟩, .inr (fun g hg => by cases hg; omega), B1.out⟩
        · have := C1.out
          rw [HE.out, HLX.out, List.length_replicate, show x + (cap - x) = cap by omega]
          rfl
        · rw [HE.out]
          exact H1.out
        · have := C1.out
          rw [HE.out, HLX.out, List.length_replicate]
          omega
end Go.Proofs.Ytcnpodmifichfaa
