/- DERIVED. Walk of slices.Replace at ranges: one element for at least one. -/
import Derived.Test.YtijnjnncgkhabaaVRng
import Derived.Deep.RegionLaw
import Derived.Deep.DeepMust
namespace Go.Proofs.Ytijnjnncgkhabaa
open Go.RowKit

theorem replace_rows {rs : List Rg} {r : Rg} {i k n cap : Nat} {zz : List Rg} (hik : i < k) (hkn : k < n) (hnc : n ≤ cap) (hrs : rs.length = cap)
    (hz : zz = splice (splice rs i [r]) (i + 1) (((splice rs i [r]).drop k).take (n - k)) ∨ ∃ c, zz = splice (splice (splice rs i [r]) (i + 1) (((splice rs i [r]).drop k).take (n - k))) (i + 1 + (n - k)) c ∧ i + 1 + (n - k) + c.length ≤ cap) :
    ∃ zs, zz = (rs.take i ++ r :: (rs.take n).drop k) ++ zs ∧ i + 1 + (n - k) + zs.length = cap := by
  have l1 : (splice rs i [r]).length = cap := by rw [splice_len _ _ _ (by simp; omega), hrs]
  have m1 : ((splice rs i [r]).drop k).take (n - k) = (rs.take n).drop k := by
    rw [splice_drop_ge (by simp; omega) (by simp; omega), List.drop_take]
  have ml : ((rs.take n).drop k).length = n - k := by rw [List.length_drop, List.length_take]; omega
  rw [m1] at hz
  have l2 : (splice (splice rs i [r]) (i + 1) ((rs.take n).drop k)).length = cap := by rw [splice_len _ _ _ (by rw [l1, ml]; omega), l1]
  have t2 : (splice (splice rs i [r]) (i + 1) ((rs.take n).drop k)).take (i + 1 + (n - k)) = rs.take i ++ [r] ++ (rs.take n).drop k := by
    have h1 := splice_take_end (L := splice rs i [r]) (c := (rs.take n).drop k) (o := i + 1) (by omega)
    have h2 := splice_take_end (L := rs) (c := [r]) (o := i) (by omega)
    rw [ml] at h1
    rw [h1]
    congr 1
  have t3 : zz.take (i + 1 + (n - k)) = rs.take i ++ [r] ++ (rs.take n).drop k ∧ zz.length = cap := by
    rcases hz with rfl | ⟨c, rfl, hc⟩
    · exact ⟨t2, l2⟩
    · exact ⟨by rw [splice_take_lt (Nat.le_refl _) (by rw [l2]; omega)]; exact t2, by rw [splice_len _ _ _ (by rw [l2]; exact hc), l2]⟩
  refine ⟨zz.drop (i + 1 + (n - k)), ?_, ?_⟩
  · have e : rs.take i ++ r :: (rs.take n).drop k = rs.take i ++ [r] ++ (rs.take n).drop k := by simp
    rw [e, ← t3.1, List.take_append_drop]
  · rw [List.length_drop, t3.2]; omega

set_option maxRecDepth 100000 in
set_option maxHeartbeats 400000 in
theorem replace_mid {E E' : TypeId} (g h : Nat) (rs : List Rg) (r : Rg) (i k n cap : Nat) (w : World) (hik : i < k) (hkn : k < n) (hnc : n ≤ cap) (hrs : rs.length = cap) (hg : RowR E w g rs) (hh : RowR E' w h [r]) (ho : ∀ a ∈ rs.take n, oneR a) (hr1 : oneR r) (_hgh : g ≠ h) (hm : cap ≤ 9223372036854775807) :
    Calls Try.prog 155 #[.slice (some ⟨g, 0, none⟩) n cap, .int .i64 i, .int .i64 k, .slice (some ⟨h, 0, none⟩) 1 1] w
      fun e w' => e = .returned (.slice (some ⟨g, 0, none⟩) (i + 1 + (n - k)) cap) ∧ Head E w' g (rs.take i ++ r :: (rs.take n).drop k) cap ∧ Upd (fun k => k = g) w w' := by
  obtain ⟨i0, hi, hz0, hz1, hz2⟩ := info_parts infoR
  have HG := Lib.hid hg
  have HH := Lib.hid hh
  have HN := Lib.hid hrs
  have HO := Lib.hid ho
  have HR1 := Lib.hid hr1
  clear hg hh hrs ho hr1
  go_enter Try.func155, Try.ntmps155
  go_wp2_with fail
  go_quiet (fail)
  go_wp2_with (refine wpList_copy_at encR_len encR_one Try.underlying49 hi hz1 rfl (.tmp 95) (.tmp 96) 49 rfl (by exact HG.out) (by exact HH.out) i 0 1 rfl rfl rfl rfl ?c1 ?c2 ?c3 ?cp ?_)
  case c1 => omega
  case c2 => rw [HN.out]; omega
  case c3 => exact Nat.le_refl _
  case cp => intro a ha; simp at ha; subst ha; exact HR1.out
  intro W1 hW1 hU1
  have H1 := Lib.hid hW1
  have U1 := Lib.hid hU1
  have L1 := Lib.hid (show (splice rs i [r]).length = cap by rw [splice_len _ _ _ (by rw [HN.out]; simp; omega), HN.out])
  clear hW1 hU1
  go_wp2_with fail
  have f1 : IntKind.i64.wrap ((i : Int) + 1) = (i : Int) + 1 := IntWalk.i64_in _ (by omega)
  have f2 : ((i : Int) + 1).toNat = i + 1 := by omega
  have f3 : (0 : Int) ≤ (i : Int) + 1 := by omega
  have f4 : (i : Int) + 1 ≤ (i : Int) + 1 + ((n - k : Nat) : Int) := by omega
  have f5 : ¬ cap = i + 1 := by omega
  have f6 : ¬ cap = k := by omega
  have f7 : k ≤ n := by omega
  go_still_tail 9, (by kernel_rfl)
  change wpList _ _ _ _ _ W1.drew
  clear f1 f2 f3 f4 f5 f6 f7
  go_wp2_with (refine wpList_copy_at encR_len encR_one Try.underlying49 hi hz1 rfl (.tmp 103) (.tmp 106) 49 rfl (by exact H1.out) (by exact H1.out) (i + 1) k (n - k) rfl rfl rfl rfl ?d1 ?d2 ?d3 ?dp ?_)
  case d2 => rw [L1.out]; omega
  case d3 => rw [L1.out]; omega
  case dp =>
    intro a ha
    rw [splice_drop_ge (by rw [HN.out]; simp; omega) (by simp; omega)] at ha
    refine HO.out a ?_
    rw [← List.drop_take] at ha
    exact List.mem_of_mem_drop ha
  intro W2 hW2 hU2
  have H2 := Lib.hid hW2
  have U2 := Lib.hid hU2
  have L2 := Lib.hid (show (splice (splice rs i [r]) (i + 1) (((splice rs i [r]).drop k).take (n - k))).length = cap by rw [splice_len _ _ _ (by rw [L1.out, List.length_take, List.length_drop, L1.out]; omega), L1.out])
  clear hW2 hU2
  by_cases hx : i + 1 + (n - k) < cap
  · go_wp2_with (refine wpList_clear_at encR_len encR_one Try.underlying49 hi hz0 zeroR z0_one rfl (.tmp 110) rfl (by exact H2.out) (i + 1 + (n - k)) (n - (i + 1 + (n - k))) rfl rfl ?e1 ?_)
    case e1 => rw [L2.out]; omega
    intro W3 hW3 hU3
    have H3 := Lib.hid hW3
    have U3 := Lib.hid hU3
    clear hW3 hU3
    go_wp2
    go_ret
    refine ⟨rfl, ?_, ?_⟩
    · obtain ⟨zs, hzs, hlen⟩ := replace_rows (zz := splice (splice (splice rs i [r]) (i + 1) (((splice rs i [r]).drop k).take (n - k))) (i + 1 + (n - k)) (List.replicate (n - (i + 1 + (n - k))) z0)) hik hkn hnc HN.out (.inr ⟨_, rfl, by simp; omega⟩)
      exact ⟨zs, by rw [← hzs]; exact H3.out, by simp only [List.length_append, List.length_take, List.length_drop, List.length_cons, HN.out]; omega⟩
    · exact (((Upd.refl _ w).drewN nq).then U1.out).drew.then (U2.out.then U3.out)
  · have hcn : n = cap := by omega
    have hk1 : k = i + 1 := by omega
    have HC := Lib.hid hcn
    have HK := Lib.hid hk1
    clear hcn hk1
    go_wp2_with (refine wpList_clear_zero Try.underlying49 rfl (.tmp 110) rfl rfl ?e2 ?_)
    case e2 => have := HC.out; have := HK.out; omega
    go_wp2
    have hcap : i + 1 + (n - k) = cap := by omega
    go_ret
    refine ⟨rfl, ?_, ?_⟩
    · rw [hcap]
      obtain ⟨zs, hzs, hlen⟩ := replace_rows (zz := splice (splice rs i [r]) (i + 1) (((splice rs i [r]).drop k).take (n - k))) hik hkn hnc HN.out (.inl rfl)
      exact ⟨zs, by rw [← hzs]; exact H2.out, by simp only [List.length_append, List.length_take, List.length_drop, List.length_cons, HN.out]; omega⟩
    · exact (((Upd.refl _ w).drewN nq).then U1.out).drew.then U2.out
end Go.Proofs.Ytijnjnncgkhabaa
