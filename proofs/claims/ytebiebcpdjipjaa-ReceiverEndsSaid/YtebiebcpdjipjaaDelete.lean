/- DERIVED. Walk of slices.Delete at ranges: some from the front on, not all. -/
import Derived.Test.YtebiebcpdjipjaaReplAny
namespace Go.Proofs.Ytebiebcpdjipjaa
open Go.RowKit

theorem delete_rows {rs : List Rg} {n len cap : Nat} (hn : n < len) (hc : len ≤ cap) (hrs : rs.length = cap) :
    ∃ zs, splice (splice rs 0 ((rs.drop n).take (len - n))) (len - n) (List.replicate n (0, 0)) = (rs.take len).drop n ++ zs ∧ len - n + zs.length = cap := by
  have ml : ((rs.drop n).take (len - n)).length = len - n := by rw [List.length_take, List.length_drop]; omega
  have l1 : (splice rs 0 ((rs.drop n).take (len - n))).length = cap := by rw [splice_len _ _ _ (by rw [ml]; omega), hrs]
  have l2 : (splice (splice rs 0 ((rs.drop n).take (len - n))) (len - n) (List.replicate n ((0, 0) : Rg))).length = cap := by rw [splice_len _ _ _ (by rw [l1]; simp; omega), l1]
  have t1 : (splice rs 0 ((rs.drop n).take (len - n))).take (len - n) = (rs.take len).drop n := by
    have := splice_take_end (L := rs) (c := (rs.drop n).take (len - n)) (o := 0) (by omega)
    rw [ml, Nat.zero_add] at this
    rw [this, List.take_zero, List.nil_append, List.drop_take]
  refine ⟨(splice (splice rs 0 ((rs.drop n).take (len - n))) (len - n) (List.replicate n ((0, 0) : Rg))).drop (len - n), ?_, ?_⟩
  · rw [← t1, ← splice_take_lt (L := splice rs 0 ((rs.drop n).take (len - n))) (c := List.replicate n ((0, 0) : Rg)) (o := len - n) (m := len - n) (Nat.le_refl _) (by rw [l1]; omega), List.take_append_drop]
  · rw [List.length_drop, l2]; omega

set_option maxRecDepth 100000 in
set_option maxHeartbeats 400000 in
theorem delete_front (g : Nat) (rs : List Rg) (n len cap : Nat) (w : World) (hn0 : 0 < n) (hn : n < len) (hc : len ≤ cap) (hrs : rs.length = cap) (hg : RowR w g rs) (_hm : cap ≤ 9223372036854775807) :
    Calls Try.prog 77 #[.slice (some ⟨g, 0, none⟩) len cap, .int .i64 0, .int .i64 n] w
      fun e w' => e = .returned (.slice (some ⟨g, 0, none⟩) (len - n) cap) ∧ Head w' g ((rs.take len).drop n) cap ∧ Upd (fun k => k = g) w w' := by
  obtain ⟨i0, hi, hz0, hz1, hz2⟩ := info_parts infoR
  have HG := Lib.hid hg
  have HN := Lib.hid hrs
  clear hg hrs
  go_enter Try.func77, Try.ntmps77
  go_wp2_with fail
  have f6 : ¬ cap = n := by omega
  have f7 : n ≤ len := by omega
  have f8 : (n : Int) ≤ (len : Int) := by omega
  go_still_tail 6, (by kernel_rfl)
  change wpList _ _ _ _ _ w.drew
  clear f6 f7 f8
  go_wp2_with (refine wpList_append_at encR_len encR_one Try.underlying31 hi hz1 rfl (.tmp 22) (.tmp 25) rfl (by exact HG.out) (by exact HG.out) 0 n rfl rfl rfl rfl ?c1 ?c2 ?c3 ?_)
  case c1 => omega
  case c2 => rw [HN.out]; omega
  case c3 => rw [HN.out]; omega
  intro W1 hW1 hU1
  try simp only [Nat.zero_add, Nat.add_zero] at hW1
  have H1 := Lib.hid hW1
  have U1 := Lib.hid hU1
  have L1 := Lib.hid (show (splice rs 0 ((rs.drop n).take (len - n))).length = cap by rw [splice_len _ _ _ (by rw [HN.out, List.length_take, List.length_drop, HN.out]; omega), HN.out])
  clear hW1 hU1
  go_wp2_with (refine wpList_clear_at encR_len encR_one Try.underlying31 hi hz0 zeroR rfl (.tmp 31) rfl (by exact H1.out) (len - n) (len - (len - n)) rfl rfl ?d3 ?_)
  case d3 => rw [L1.out]; omega
  intro W2 hW2 hU2
  rw [show len - (len - n) = n by omega] at hW2
  have H2 := Lib.hid hW2
  have U2 := Lib.hid hU2
  clear hW2 hU2
  go_wp2
  go_ret
  refine ⟨rfl, ?_, ((Upd.refl _ w).drew.then U1.out).then U2.out⟩
  obtain ⟨zs, hzs, hl⟩ := delete_rows hn hc HN.out
  exact ⟨zs, by rw [← hzs]; exact H2.out, by rw [List.length_drop, List.length_take, HN.out, Nat.min_eq_left hc]; exact hl⟩
end Go.Proofs.Ytebiebcpdjipjaa
