/- DERIVED. The reference's Cut. -/
import Derived.Test.YtcnpodmifichfaaRefL
namespace Go.Proofs.Ytcnpodmifichfaa
open Go.RowKit

theorem CutSt.drewN {w0 : World} {ys : List Rg} {v : Value} {og : Option Nat} {w : World} (h : CutSt w0 ys v og w) (n : Nat) : CutSt w0 ys v og (w.drewN n) :=
  ⟨h.sl.drewN n, h.new, below_drewN h.below n⟩

/-- What the new list ends as. -/
theorem Kept.ofNew {w wr w' : World} {og oo : Option Nat} {ys : List Rg} {e : Ending} (hn : ∀ g, oo = some g → w.heap.size ≤ g) (hb : Below w.heap.size w wr) (h : Kept wr oo ys e w') : Kept w og ys e w' := by
  obtain ⟨v', og', he, hs, ho, hB⟩ := h
  refine ⟨v', og', he, hs, .inr ?_, below_call hb hb.size hB⟩
  rcases ho with rfl | ho
  · exact hn
  · intro g hg
    exact Nat.le_trans hb.size (ho g hg)

set_option maxRecDepth 100000 in
set_option maxHeartbeats 4000000 in
theorem rcut_any (v : Value) (og : Option Nat) (xs : List Rg) (lo hi : Nat) (m : Int) (w : World) (h : Sl w v og xs) (hm : m ≤ 9223372036854775807) (hm2 : -9223372036854775808 ≤ m) (hlo : lo < 18446744073709551616) (hhi : hi < 18446744073709551616) (hx : Norm xs) (hl : xs.length * 32 + 64 ≤ 140737488355328) :
    Calls Try.prog 26 #[v, .int .u64 lo, .int .u64 hi, .int .i64 m] w (Kept w og (if hi ≤ lo then xs else trimL (mostOf m) (cutRaw lo hi xs))) := by
  obtain ⟨i0, hi0, hz0, hz1, hz2⟩ := info_parts infoR
  obtain ⟨oa, cap, rfl, hcap, hcap2⟩ := h.shape
  have HS := Lib.hid h
  have HX := Lib.hid hx
  clear h hx
  generalize hn : xs.length = len at *
  have HN := Lib.hid hn
  clear hn
  by_cases hlh : hi ≤ lo
  · rw [if_pos hlh]
    go_enter Try.func26, Try.ntmps26
    go_wp2
    go_ret
    exact ⟨_, og, rfl, HS.out, .inl rfl, Below.refl _ _⟩
  rw [if_neg hlh]
  have hlen : ∀ k, k ≤ len → (cutRaw lo hi (xs.take k)).length ≤ 2 * k := fun k hk => Nat.le_trans (cutRaw_len lo hi _) (by rw [List.length_take]; omega)
  have HLEN := Lib.hid hlen
  clear hlen
  go_enter Try.func26, Try.ntmps26
  go_wp2_with fail
  go_loopw [9, 10] (fun ov i wr => ∃ (k : Nat) (oo : Option Nat), i = .int .i64 k ∧ k ≤ len ∧ CutSt w (cutRaw lo hi (xs.take k)) ov oo wr) (fun _ i _ => len - (intOf i).toNat)
  case atStart => exact ⟨0, none, rfl, by omega, ⟨Sl.nil _, by simp, Below.refl _ _⟩⟩
  case round =>
    obtain ⟨k, oo, rfl, hk, hst⟩ := hrel
    have HST := Lib.hid hst
    clear hst
    by_cases hlt : k < len
    · obtain ⟨r, hr⟩ : ∃ r, xs[k]? = some r := ⟨_, List.getElem?_eq_getElem (by rw [HN.out]; exact hlt)⟩
      obtain ⟨hr1, hr2⟩ := HX.out.at hr
      obtain ⟨g, hog, rfl, hgl, c0, c1⟩ := HS.out.atS hr
      have d0 := (HST.out.below.cell (p := ⟨g, k * 2, none⟩) hgl).trans c0
      have d1 := (HST.out.below.cell (p := ⟨g, k * 2 + 1, none⟩) hgl).trans c1
      have HT := Lib.hid (cutRaw_take (lo := lo) (hi := hi) hr)
      have hlen := HLEN.out k hk
      clear c0 c1 hog hr
      generalize cutRaw lo hi (xs.take k) = ys at *
      generalize hnx : cutRaw lo hi (xs.take (k + 1)) = nxt at *
      have HNX := Lib.hid hnx
      clear hnx
      by_cases h1 : lo < r.2
      · by_cases h2 : r.1 < hi
        · have hc1 : cut1 lo hi r = (if r.1 < lo then [(r.1, lo)] else []) ++ (if hi < r.2 then [(hi, r.2)] else []) := by rw [cut1, if_neg (by omega)]
          have HC1 := Lib.hid hc1
          clear hc1
          by_cases h4 : r.1 < lo
          · go_wp2_with fail
            go_quiet (fail)
            go_wp2_with (refine cut_push (by exact (HST.out.drewN _).alloc _) hi0 hz0 hz1 hz2 rfl (.tmp 38) (.tmp 44) rfl (r := (r.1, lo)) (by exact alloc_at (_ : World) _) rfl rfl ?c1 ?_)
            case c1 => omega
            intro W1 v1 o1 hS1 ho1 hU1
            have HS1 := Lib.hid hS1
            clear hS1 ho1 hU1 HST d0 d1
            by_cases h5 : hi < r.2
            · go_wp2_with (refine cut_push (by exact HS1.out.alloc _) hi0 hz0 hz1 hz2 rfl (.tmp 51) (.tmp 57) rfl (r := (hi, r.2)) (by exact alloc_at (_ : World) _) rfl rfl ?c1 ?_)
              case c1 => simp only [List.length_append, List.length_cons, List.length_nil]; omega
              intro W2 v2 o2 hS2 ho2 hU2
              have HS2 := Lib.hid hS2
              clear hS2 ho2 hU2 HS1
              go_wp2
              go_roundw
              case rel => exact ⟨k + 1, o2, by go_num, by omega, by rw [HNX.out, HT.out, HC1.out, if_pos h4, if_pos h5]; simpa using HS2.out⟩
              case measure => simp [intOf]; omega
            · go_wp2
              go_roundw
              case rel => exact ⟨k + 1, o1, by go_num, by omega, by rw [HNX.out, HT.out, HC1.out, if_pos h4, if_neg h5]; simpa using HS1.out⟩
              case measure => simp [intOf]; omega
          · by_cases h5 : hi < r.2
            · go_wp2_with fail
              go_quiet (fail)
              go_wp2_with (refine cut_push (by exact (HST.out.drewN _).alloc _) hi0 hz0 hz1 hz2 rfl (.tmp 51) (.tmp 57) rfl (r := (hi, r.2)) (by exact alloc_at (_ : World) _) rfl rfl ?c1 ?_)
              case c1 => omega
              intro W1 v1 o1 hS1 ho1 hU1
              have HS1 := Lib.hid hS1
              clear hS1 ho1 hU1 HST
              go_wp2
              go_roundw
              case rel => exact ⟨k + 1, o1, by go_num, by omega, by rw [HNX.out, HT.out, HC1.out, if_neg h4, if_pos h5]; simpa using HS1.out⟩
              case measure => simp [intOf]; omega
            · go_wp2_with fail
              go_quiet (fail)
              go_wp2
              go_roundw
              case rel => exact ⟨k + 1, oo, by go_num, by omega, by rw [HNX.out, HT.out, HC1.out, if_neg h4, if_neg h5]; simpa using HST.out.drewN _⟩
              case measure => simp [intOf]; omega
        · have HC1 := Lib.hid (show cut1 lo hi r = [r] by rw [cut1, if_pos (by omega)])
          go_wp2_with fail
          go_quiet (fail)
          go_wp2_with (refine cut_push (by exact (HST.out.drewN _).alloc _) hi0 hz0 hz1 hz2 rfl (.tmp 51) (.tmp 57) rfl (r := r) (by exact alloc_at (_ : World) _) rfl rfl ?c1 ?_)
          case c1 => omega
          intro W1 v1 o1 hS1 ho1 hU1
          have HS1 := Lib.hid hS1
          clear hS1 ho1 hU1 HST
          go_wp2
          go_roundw
          case rel => exact ⟨k + 1, o1, by go_num, by omega, by rw [HNX.out, HT.out, HC1.out]; exact HS1.out⟩
          case measure => simp [intOf]; omega
      · have HC1 := Lib.hid (show cut1 lo hi r = [r] by rw [cut1, if_pos (by omega)])
        go_wp2_with fail
        go_quiet (fail)
        go_wp2_with (refine cut_push (by exact (HST.out.drewN _).alloc _) hi0 hz0 hz1 hz2 rfl (.tmp 38) (.tmp 44) rfl (r := r) (by exact alloc_at (_ : World) _) rfl rfl ?c1 ?_)
        case c1 => omega
        intro W1 v1 o1 hS1 ho1 hU1
        have HS1 := Lib.hid hS1
        clear hS1 ho1 hU1 HST
        go_wp2
        go_roundw
        case rel => exact ⟨k + 1, o1, by go_num, by omega, by rw [HNX.out, HT.out, HC1.out]; exact HS1.out⟩
        case measure => simp [intOf]; omega
    · have hfin : cutRaw lo hi (xs.take k) = cutRaw lo hi xs := by rw [List.take_of_length_le (by rw [HN.out]; omega)]
      rw [hfin] at HST
      clear hfin
      go_wp2_with fail
      refine (least_any _ oo (cutRaw lo hi xs) m _ (by exact HST.out.sl) hm hm2 ?_).mono ?_
      · have := cutRaw_len lo hi xs
        rw [HN.out] at this
        omega
      intro e w' hK
      have HK := Lib.hid (Kept.ofNew (og := og) HST.out.new HST.out.below hK)
      obtain ⟨v', og', rfl, _⟩ := hK
      go_wp2
      go_ret
      exact HK.out
end Go.Proofs.Ytcnpodmifichfaa
