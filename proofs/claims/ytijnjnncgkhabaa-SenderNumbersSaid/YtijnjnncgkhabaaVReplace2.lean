/- DERIVED. Walk of slices.Replace at ranges: one element for at least one, up to the end. -/
import Derived.Test.YtijnjnncgkhabaaVRng
import Derived.Deep.DeepMust
namespace Go.Proofs.Ytijnjnncgkhabaa
open Go.RowKit

theorem replace_rows2 {rs : List Rg} {r : Rg} {i n cap : Nat} {zz : List Rg} (hin : i < n) (hnc : n ≤ cap) (hrs : rs.length = cap)
    (hz : zz = splice rs i [r] ∨ ∃ c, zz = splice (splice rs i [r]) (i + 1) c ∧ i + 1 + c.length ≤ cap) :
    ∃ zs, zz = (rs.take i ++ [r]) ++ zs ∧ i + 1 + zs.length = cap := by
  have l1 : (splice rs i [r]).length = cap := by rw [splice_len _ _ _ (by simp; omega), hrs]
  have t1 : (splice rs i [r]).take (i + 1) = rs.take i ++ [r] := splice_take_end (L := rs) (c := [r]) (o := i) (by omega)
  have t3 : zz.take (i + 1) = rs.take i ++ [r] ∧ zz.length = cap := by
    rcases hz with rfl | ⟨c, rfl, hc⟩
    · exact ⟨t1, l1⟩
    · exact ⟨by rw [splice_take_lt (Nat.le_refl _) (by rw [l1]; omega)]; exact t1, by rw [splice_len _ _ _ (by rw [l1]; exact hc), l1]⟩
  refine ⟨zz.drop (i + 1), ?_, ?_⟩
  · rw [← t3.1, List.take_append_drop]
  · rw [List.length_drop, t3.2]; omega

set_option maxRecDepth 100000 in
set_option maxHeartbeats 400000 in
theorem replace_end {E E' : TypeId} (g h : Nat) (rs : List Rg) (r : Rg) (i n cap : Nat) (w : World) (hin : i < n) (hnc : n ≤ cap) (hrs : rs.length = cap) (hg : RowR E w g rs) (hh : RowR E' w h [r]) (hr1 : oneR r) (_hgh : g ≠ h) (_hm : cap ≤ 9223372036854775807) :
    Calls Try.prog 155 #[.slice (some ⟨g, 0, none⟩) n cap, .int .i64 i, .int .i64 n, .slice (some ⟨h, 0, none⟩) 1 1] w
      fun e w' => e = .returned (.slice (some ⟨g, 0, none⟩) (i + 1) cap) ∧ Head E w' g (rs.take i ++ [r]) cap ∧ Upd (fun k => k = g) w w' := by
  obtain ⟨i0, hi, hz0, hz1, hz2⟩ := info_parts infoR
  have HG := Lib.hid hg
  have HH := Lib.hid hh
  have HN := Lib.hid hrs
  have HR1 := Lib.hid hr1
  clear hg hh hrs hr1
  go_enter Try.func155, Try.ntmps155
  go_wp2_with (refine wpList_append_at encR_len encR_one Try.underlying49 hi hz1 rfl (.tmp 32) (.tmp 33) rfl (by exact HG.out) (by exact HH.out) 0 0 rfl rfl rfl rfl ?c1 ?c2 ?c3 ?cp ?_)
  case c1 => omega
  case c2 => rw [HN.out]; omega
  case c3 => exact Nat.le_refl _
  case cp => intro a ha; simp at ha; subst ha; exact HR1.out
  intro W1 hW1 hU1
  have H1 := Lib.hid (show Row encR W1 E g (splice rs i [r]) by simpa using hW1)
  have U1 := Lib.hid hU1
  have L1 := Lib.hid (show (splice rs i [r]).length = cap by rw [splice_len _ _ _ (by rw [HN.out]; simp; omega), HN.out])
  clear hW1 hU1
  by_cases hx : i + 1 < n
  · go_wp2_with (refine wpList_clear_at encR_len encR_one Try.underlying49 hi hz0 zeroR z0_one rfl (.tmp 43) rfl (by exact H1.out) (i + 1) (n - (i + 1)) rfl rfl ?e1 ?_)
    case e1 => rw [L1.out]; omega
    intro W3 hW3 hU3
    have H3 := Lib.hid hW3
    have U3 := Lib.hid hU3
    clear hW3 hU3
    go_wp2
    go_ret
    refine ⟨rfl, ?_, U1.out.then U3.out⟩
    obtain ⟨zs, hzs, hlen⟩ := replace_rows2 (zz := splice (splice rs i [r]) (i + 1) (List.replicate (n - (i + 1)) z0)) hin hnc HN.out (.inr ⟨_, rfl, by simp; omega⟩)
    exact ⟨zs, by rw [← hzs]; exact H3.out, by simp only [List.length_append, List.length_take, List.length_cons, List.length_nil, HN.out]; omega⟩
  · go_wp2
    go_ret
    refine ⟨rfl, ?_, U1.out⟩
    obtain ⟨zs, hzs, hlen⟩ := replace_rows2 (zz := splice rs i [r]) hin hnc HN.out (.inl rfl)
    exact ⟨zs, by rw [← hzs]; exact H1.out, by simp only [List.length_append, List.length_take, List.length_cons, List.length_nil, HN.out]; omega⟩
end Go.Proofs.Ytijnjnncgkhabaa
