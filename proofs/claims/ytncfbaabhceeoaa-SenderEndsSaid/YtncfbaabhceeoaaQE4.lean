/- DERIVED. Walk of slices.Insert at ranges: one element. -/
import Derived.Lib.Overlaps
import Derived.Deep.DeepMust
import Derived.Deep.RegionHeld3
import Derived.Test.YtncfbaabhceeoaaQE2
import Derived.Test.YtncfbaabhceeoaaQE3
set_option linter.all false
namespace Go.Proofs.Ytncfbaabhceeoaa
open Go.RowKit

theorem insert_rows {rs : List Rg} {r : Rg} {i n cap : Nat} (hin : i ≤ n) (hnc : n < cap) (hrs : rs.length = cap) :
    ∃ zs, splice (splice rs (i + 1) ((rs.drop i).take (n - i))) i [r] = (rs.take i ++ r :: (rs.take n).drop i) ++ zs ∧ n + 1 + zs.length = cap := by
  have ml : ((rs.drop i).take (n - i)).length = n - i := by rw [List.length_take, List.length_drop]; omega
  have l1 : (splice rs (i + 1) ((rs.drop i).take (n - i))).length = cap := by rw [splice_len _ _ _ (by rw [ml]; omega), hrs]
  have l2 : (splice (splice rs (i + 1) ((rs.drop i).take (n - i))) i [r]).length = cap := by rw [splice_len _ _ _ (by rw [l1]; simp; omega), l1]
  have t1 : (splice rs (i + 1) ((rs.drop i).take (n - i))).take (n + 1) = rs.take (i + 1) ++ (rs.drop i).take (n - i) := by
    have := splice_take_end (L := rs) (c := (rs.drop i).take (n - i)) (o := i + 1) (by omega)
    rw [ml, show i + 1 + (n - i) = n + 1 by omega] at this
    exact this
  have t2 : (splice (splice rs (i + 1) ((rs.drop i).take (n - i))) i [r]).take (n + 1) = rs.take i ++ r :: (rs.take n).drop i := by
    have e : splice (splice rs (i + 1) ((rs.drop i).take (n - i))) i [r] = rs.take i ++ ([r] ++ (splice rs (i + 1) ((rs.drop i).take (n - i))).drop (i + 1)) := by
      have h0 : (splice rs (i + 1) ((rs.drop i).take (n - i))).take i = rs.take i := splice_take_lt (by omega) (by omega)
      unfold splice at h0 ⊢
      rw [h0]
      rfl
    have e2 : (splice rs (i + 1) ((rs.drop i).take (n - i))).drop (i + 1) = (rs.drop i).take (n - i) ++ rs.drop (n + 1) := by
      unfold splice
      rw [List.drop_append, List.drop_of_length_le (by rw [List.length_take]; omega), List.nil_append, show i + 1 - (rs.take (i + 1)).length = 0 by rw [List.length_take]; omega, List.drop_zero, ml, show i + 1 + (n - i) = n + 1 by omega]
    rw [e, e2, List.take_append, List.length_take, Nat.min_eq_left (by omega), List.take_take, Nat.min_eq_right (by omega), show n + 1 - i = (n - i) + 1 by omega]
    simp only [List.cons_append, List.nil_append, List.take_succ_cons]
    rw [List.take_append_of_le_length (by rw [ml]; omega), List.take_take, Nat.min_self, List.drop_take]
  refine ⟨(splice (splice rs (i + 1) ((rs.drop i).take (n - i))) i [r]).drop (n + 1), ?_, ?_⟩
  · rw [← t2, List.take_append_drop]
  · rw [List.length_drop, l2]; omega

theorem sizeR (w : World) : (Go.sizeOf 92).run Try.prog w = .ok 2 w := by
  obtain ⟨i0, hi, hz0, hz1, hz2⟩ := info_parts infoR
  simp [Go.sizeOf, typeInfo, hi, hz1]

theorem overlaps_not (g h : Nat) (rs : List Rg) (r : Rg) (o lb cb : Nat) (w : World) (hrs : 0 < rs.length) (hg : RowR w g rs) (hh : RowR w h [r]) (hgh : g ≠ h) :
    (callFunc 95 #[.slice (some ⟨h, 0, none⟩) 1 1, .slice (some ⟨g, o, none⟩) lb cb]).run Try.prog w = .ok (.value (.bool false)) w := by
  rw [run_callFunc_extern Try.func95 (by kernel_rfl) (by kernel_rfl) (by kernel_rfl) (e := Extern.SlicesOverlaps.overlaps #[37, 37] #[4]) (by kernel_rfl),
    Lib.run_overlaps_apart w 37 4 92 Try.underlying37 2 sizeR ⟨h, 0, none⟩ ⟨g, o, none⟩ 1 1 lb cb (fun e => hgh e.symm) 92 92 2 (rs.length * 2)
      (by simp [World.shape?, show w.heap[h]? = _ from hh, flat, encR]) (by simp [World.shape?, show w.heap[g]? = _ from hg, flat_length encR_len]) (by omega) (hh.free 0) (hh.free 2)]
  rfl

set_option maxRecDepth 100000 in
set_option maxHeartbeats 400000 in
theorem insert_shift (g h : Nat) (rs : List Rg) (r : Rg) (i n cap : Nat) (w : World) (hin : i < n) (hnc : n < cap) (hrs : rs.length = cap) (hg : RowR w g rs) (hh : RowR w h [r]) (hgh : g ≠ h) (hm : cap ≤ 9223372036854775807) :
    Calls Try.prog 94 #[.slice (some ⟨g, 0, none⟩) n cap, .int .i64 i, .slice (some ⟨h, 0, none⟩) 1 1] w
      fun e w' => e = .returned (.slice (some ⟨g, 0, none⟩) (n + 1) cap) ∧ Head w' g (rs.take i ++ r :: (rs.take n).drop i) cap ∧ Upd (fun k => k = g) w w' := by
  obtain ⟨i0, hi, hz0, hz1, hz2⟩ := info_parts infoR
  have hov := fun o lb cb => overlaps_not g h rs r o lb cb w (by omega) hg hh hgh
  have HG := Lib.hid hg
  have HH := Lib.hid hh
  have HN := Lib.hid hrs
  clear hg hh hrs
  go_enter Try.func94, Try.ntmps94
  go_wp2_with (simp only [hov])
  go_wp2_with fail
  clear hov
  have f1 : IntKind.i64.wrap ((i : Int) + 1) = (i : Int) + 1 := IntWalk.i64_in _ (by omega)
  have f2 : ((i : Int) + 1).toNat = i + 1 := by omega
  have f3 : (0 : Int) ≤ (i : Int) + 1 := by omega
  have f4 : (i : Int) + 1 ≤ (n : Int) + 1 := by omega
  have f5 : ¬ cap = i + 1 := by omega
  have f6 : ¬ cap = i := by omega
  have f7 : i ≤ n + 1 := by omega
  have f8 : i ≤ n := by omega
  have f9 : (i : Int) ≤ (n : Int) + 1 := by omega
  go_still_tail 8, (by kernel_rfl)
  change wpList _ _ _ _ _ w.drew
  clear f1 f2 f3 f4 f5 f6 f7 f8 f9
  go_wp2_with (refine wpList_copy_at encR_len encR_one Try.underlying37 hi hz1 rfl (.tmp 73) (.tmp 76) 37 rfl (by exact HG.out) (by exact HG.out) (i + 1) i (n - i) rfl rfl rfl rfl ?d1 ?d2 ?d3 ?_)
  case d1 => omega
  case d2 => rw [HN.out]; omega
  case d3 => rw [HN.out]; omega
  intro W1 hW1 hU1
  have H1 := Lib.hid hW1
  have U1 := Lib.hid hU1
  have HH1 := Lib.hid (hU1.keeps HH.out (fun e => hgh e.symm))
  have L1 := Lib.hid (show (splice rs (i + 1) ((rs.drop i).take (n - i))).length = cap by rw [splice_len _ _ _ (by rw [HN.out, List.length_take, List.length_drop, HN.out]; omega), HN.out])
  clear hW1 hU1
  go_wp2_with (refine wpList_copy_at encR_len encR_one Try.underlying37 hi hz1 rfl (.tmp 80) (.tmp 81) 37 rfl (by exact H1.out) (ss := [r]) (by exact HH1.out) i 0 1 rfl rfl rfl rfl ?e1 ?e2 ?e3 ?_)
  case e1 => omega
  case e2 => rw [L1.out]; omega
  case e3 => exact Nat.le_refl _
  intro W2 hW2 hU2
  have H2 := Lib.hid (show Row encR W2 92 g (splice (splice rs (i + 1) ((rs.drop i).take (n - i))) i [r]) by simpa using hW2)
  have U2 := Lib.hid hU2
  clear hW2 hU2
  go_wp2
  go_ret
  refine ⟨rfl, ?_, ((Upd.refl _ w).drew.then U1.out).then U2.out⟩
  obtain ⟨zs, hzs, hlen⟩ := insert_rows (r := r) (Nat.le_of_lt hin) hnc HN.out
  exact ⟨zs, by rw [← hzs]; exact H2.out, by simp only [List.length_append, List.length_take, List.length_drop, List.length_cons, HN.out]; omega⟩

set_option maxRecDepth 100000 in
set_option maxHeartbeats 400000 in
theorem insert_end (g h : Nat) (rs : List Rg) (r : Rg) (n cap : Nat) (w : World) (hnc : n < cap) (hrs : rs.length = cap) (hg : RowR w g rs) (hh : RowR w h [r]) (hm : cap ≤ 9223372036854775807) :
    Calls Try.prog 94 #[.slice (some ⟨g, 0, none⟩) n cap, .int .i64 n, .slice (some ⟨h, 0, none⟩) 1 1] w
      fun e w' => e = .returned (.slice (some ⟨g, 0, none⟩) (n + 1) cap) ∧ Head w' g (rs.take n ++ [r]) cap ∧ Upd (fun k => k = g) w w' := by
  obtain ⟨i0, hi, hz0, hz1, hz2⟩ := info_parts infoR
  have HG := Lib.hid hg
  have HH := Lib.hid hh
  have HN := Lib.hid hrs
  clear hg hh hrs
  go_enter Try.func94, Try.ntmps94
  go_wp2_with (refine wpList_append_at encR_len encR_one Try.underlying37 hi hz1 rfl (.tmp 23) (.tmp 24) rfl (by exact HG.out) (ss := [r]) (by exact HH.out) 0 0 rfl rfl rfl rfl ?c1 ?c2 ?c3 ?_)
  case c1 => omega
  case c2 => rw [HN.out]; omega
  case c3 => exact Nat.le_refl _
  intro W1 hW1 hU1
  have H1 := Lib.hid (show Row encR W1 92 g (splice rs n [r]) by simpa using hW1)
  have U1 := Lib.hid hU1
  clear hW1 hU1
  go_wp2
  go_ret
  refine ⟨rfl, ?_, U1.out⟩
  refine ⟨rs.drop (n + 1), ?_, by simp only [List.length_append, List.length_take, List.length_drop, List.length_cons, List.length_nil, HN.out]; omega⟩
  have e : splice rs n [r] = rs.take n ++ [r] ++ rs.drop (n + 1) := by simp [splice]
  rw [← e]
  exact H1.out

/-- A new row g' that begins with xs. -/
def Fresh (w w' : World) (xs : List Rg) (e : Ending) : Prop := ∃ cap, e = .returned (.slice (some ⟨w.heap.size, 0, none⟩) xs.length cap) ∧ Head w' w.heap.size xs cap ∧ cap ≤ 9223372036854775807 ∧ Below w.heap.size w w'

set_option maxRecDepth 100000 in
set_option maxHeartbeats 400000 in
theorem insert_end_grow (g h : Nat) (rs : List Rg) (r : Rg) (n : Nat) (w : World) (hrs : rs.length = n) (hg : RowR w g rs) (hh : RowR w h [r]) (hm : (n + 1) * 16 ≤ 140737488355328) :
    Calls Try.prog 94 #[.slice (some ⟨g, 0, none⟩) n n, .int .i64 n, .slice (some ⟨h, 0, none⟩) 1 1] w
      fun e w' => Fresh w w' (rs ++ [r]) e := by
  obtain ⟨i0, hi, hz0, hz1, hz2⟩ := info_parts infoR
  have HG := Lib.hid hg
  have HH := Lib.hid hh
  have HN := Lib.hid hrs
  clear hg hh hrs
  go_enter Try.func94, Try.ntmps94
  go_wp2_with (refine wpList_append_fresh encR_len Try.underlying37 hi hz1 hz0 zeroR rfl (.tmp 23) (.tmp 24) rfl (by exact HG.out) (ss := [r]) (by exact HH.out) 0 0 rfl rfl rfl rfl ?c1 ?c2 ?c3 ?c4 ?c5 ?c6 ?_)
  case c1 => omega
  case c2 => rw [HN.out]; omega
  case c3 => exact Nat.le_refl _
  case c4 => omega
  case c5 => omega
  case c6 => rw [hz2]; omega
  intro W1 cap hW1 hc1 hc2 hB1 hsz
  have H1 := Lib.hid (show RowR W1 w.heap.size ((rs ++ [r]) ++ List.replicate (cap - (n + 1)) (0, 0)) by
    have e : rs.take n = rs := List.take_of_length_le (by rw [HN.out]; omega)
    simpa [e] using hW1)
  have B1 := Lib.hid hB1
  have C1 := Lib.hid (show n + 1 ≤ cap ∧ cap ≤ 9223372036854775807 from ⟨hc1, hc2⟩)
  clear hW1 hc1 hc2 hB1 hsz
  go_wp2
  go_ret
  have hl : (rs ++ [r]).length = n + 1 := by simp [HN.out]
  exact ⟨cap, by rw [hl]; rfl, ⟨_, H1.out, by rw [hl, List.length_replicate]; have := C1.out; omega⟩, C1.out.2, B1.out⟩

set_option maxRecDepth 100000 in
set_option maxHeartbeats 400000 in
theorem insert_nil (h : Nat) (r : Rg) (w : World) (hh : RowR w h [r]) :
    Calls Try.prog 94 #[.slice none 0 0, .int .i64 0, .slice (some ⟨h, 0, none⟩) 1 1] w
      fun e w' => Fresh w w' [r] e := by
  obtain ⟨i0, hi, hz0, hz1, hz2⟩ := info_parts infoR
  have HH := Lib.hid hh
  clear hh
  go_enter Try.func94, Try.ntmps94
  go_wp2_with (refine wpList_append_nil encR_len Try.underlying37 hi hz1 hz0 zeroR rfl (.tmp 23) (.tmp 24) rfl (ss := [r]) (by exact HH.out) 0 rfl rfl rfl ?c1 ?c2 ?c3 ?c4 ?_)
  case c1 => omega
  case c2 => exact Nat.le_refl _
  case c3 => omega
  case c4 => rw [hz2]; omega
  intro W1 cap hW1 hc1 hc2 hB1 hsz
  have H1 := Lib.hid (show RowR W1 w.heap.size ([r] ++ List.replicate (cap - 1) (0, 0)) by simpa using hW1)
  have B1 := Lib.hid hB1
  have C1 := Lib.hid (show 1 ≤ cap ∧ cap ≤ 9223372036854775807 from ⟨hc1, hc2⟩)
  clear hW1 hc1 hc2 hB1 hsz
  go_wp2
  go_ret
  exact ⟨cap, rfl, ⟨_, H1.out, by rw [List.length_replicate]; have := C1.out; simp; omega⟩, C1.out.2, B1.out⟩

theorem grow_rows {rs Z : List Rg} {r : Rg} {i n cap : Nat} {z : Rg} (hin : i < n) (hnc : n + 1 ≤ cap) (hrs : rs.length = n) (hZ : Z = rs.take i ++ List.replicate (n + 1 - i + (cap - (n + 1))) z) :
    ∃ zs, splice (splice Z i [r]) (i + 1) ((rs.drop i).take (n - i)) = (rs.take i ++ r :: rs.drop i) ++ zs ∧ n + 1 + zs.length = cap := by
  have l0 : Z.length = cap := by rw [hZ]; simp; omega
  have e1 : (rs.drop i).take (n - i) = rs.drop i := List.take_of_length_le (by rw [List.length_drop]; omega)
  rw [e1]
  have ml : (rs.drop i).length = n - i := by rw [List.length_drop]; omega
  have l1 : (splice Z i [r]).length = cap := by rw [splice_len _ _ _ (by rw [l0]; simp; omega), l0]
  have l2 : (splice (splice Z i [r]) (i + 1) (rs.drop i)).length = cap := by rw [splice_len _ _ _ (by rw [l1, ml]; omega), l1]
  have t0 : Z.take i = rs.take i := by
    rw [hZ, List.take_append_of_le_length (by rw [List.length_take]; omega), List.take_take, Nat.min_self]
  have t1 : (splice Z i [r]).take (i + 1) = rs.take i ++ [r] := by
    have := splice_take_end (L := Z) (c := [r]) (o := i) (by rw [l0]; omega)
    rw [t0] at this
    exact this
  have t2 : (splice (splice Z i [r]) (i + 1) (rs.drop i)).take (n + 1) = rs.take i ++ r :: rs.drop i := by
    have := splice_take_end (L := splice Z i [r]) (c := rs.drop i) (o := i + 1) (by rw [l1]; omega)
    rw [ml, show i + 1 + (n - i) = n + 1 by omega, t1] at this
    rw [this]
    simp
  refine ⟨(splice (splice Z i [r]) (i + 1) (rs.drop i)).drop (n + 1), ?_, ?_⟩
  · rw [← t2, List.take_append_drop]
  · rw [List.length_drop, l2]; omega

set_option maxRecDepth 100000 in
set_option maxHeartbeats 400000 in
theorem insert_grow (g h : Nat) (rs : List Rg) (r : Rg) (i n : Nat) (w : World) (hin : i < n) (hrs : rs.length = n) (hg : RowR w g rs) (hh : RowR w h [r]) (hm : (n + 1) * 16 ≤ 140737488355328) :
    Calls Try.prog 94 #[.slice (some ⟨g, 0, none⟩) n n, .int .i64 i, .slice (some ⟨h, 0, none⟩) 1 1] w
      fun e w' => Fresh w w' (rs.take i ++ r :: rs.drop i) e := by
  obtain ⟨i0, hi, hz0, hz1, hz2⟩ := info_parts infoR
  have HG := Lib.hid hg
  have HH := Lib.hid hh
  have HN := Lib.hid hrs
  clear hg hh hrs
  go_enter Try.func94, Try.ntmps94
  go_wp2_with (refine wpList_append_zeros encR_len (by decide) Try.underlying37 Try.underlying3 hi hz1 hz0 zeroR rfl (.tmp 34) (.tmp 39) rfl (by exact HG.out) 0 (m := n + 1 - i) rfl rfl ?c0 rfl ?c1 ?c2 ?c3 ?c4 ?c5 ?c6 ?_)
  case c0 => omega
  case c1 => omega
  case c2 => rw [HN.out]; omega
  case c3 => omega
  case c4 => omega
  case c5 => omega
  case c6 => rw [hz2]; omega
  intro W1 cap hW1 hc1 hc2 hB1 hsz
  rw [show i + (n + 1 - i) = n + 1 by omega] at hW1 hc1
  obtain ⟨Z, hZ⟩ : ∃ Z, Z = rs.take i ++ List.replicate (n + 1 - i + (cap - (n + 1))) ((0, 0) : Rg) := ⟨_, rfl⟩
  rw [← hZ] at hW1
  have H1 := Lib.hid hW1
  have HZ := Lib.hid hZ
  have B1 := Lib.hid hB1
  have C1 := Lib.hid (show n + 1 ≤ cap ∧ cap ≤ 9223372036854775807 from ⟨hc1, hc2⟩)
  have L1 := Lib.hid (show Z.length = cap by rw [hZ]; simp [HN.out]; omega)
  have HG1 := Lib.hid (below_keeps hB1 HG.out (heap_lt HG.out))
  have HH1 := Lib.hid (below_keeps hB1 HH.out (heap_lt HH.out))
  have GS := Lib.hid (show g ≠ w.heap.size ∧ h ≠ w.heap.size from ⟨Nat.ne_of_lt (heap_lt HG.out), Nat.ne_of_lt (heap_lt HH.out)⟩)
  have SZ := Lib.hid hsz
  clear hW1 hB1 hsz hZ
  rw [show i + (n + 1 - i) = n + 1 by omega]
  go_wp2_with (refine wpList_copy_at encR_len encR_one Try.underlying37 hi hz1 rfl (.tmp 43) (.tmp 44) 37 rfl (by exact H1.out) (ss := [r]) (by exact HH1.out) i 0 1 rfl rfl rfl rfl ?d1 ?d2 ?d3 ?_)
  case d1 => omega
  case d2 => rw [L1.out]; omega
  case d3 => exact Nat.le_refl _
  intro W2 hW2 hU2
  have H2 := Lib.hid (show RowR W2 w.heap.size (splice Z i [r]) from hW2)
  have U2 := Lib.hid hU2
  have HG2 := Lib.hid (hU2.keeps HG1.out GS.out.1)
  have L2 := Lib.hid (show (splice Z i [r]).length = cap by rw [splice_len _ _ _ (by rw [L1.out]; simp; omega), L1.out])
  clear hW2 hU2 HG1 HH1 H1
  go_wp2_with fail
  have f1 : IntKind.i64.wrap ((i : Int) + 1) = (i : Int) + 1 := IntWalk.i64_in _ (by omega)
  have f2 : ((i : Int) + 1).toNat = i + 1 := by omega
  have f3 : (0 : Int) ≤ (i : Int) + 1 := by omega
  have f4 : (i : Int) + 1 ≤ (n : Int) + 1 := by omega
  have f5 : ¬ cap = i + 1 := by omega
  have f6 : ¬ n = i := by omega
  have f8 : i ≤ n := by omega
  go_still_tail 8, (by kernel_rfl)
  change wpList _ _ _ _ _ W2.drew
  clear f1 f2 f3 f4 f5 f6 f8
  go_wp2_with (refine wpList_copy_at encR_len encR_one Try.underlying37 hi hz1 rfl (.tmp 50) (.tmp 53) 37 rfl (by exact H2.out) (ss := rs) (by exact HG2.out) (i + 1) i (n - i) rfl rfl rfl rfl ?e1 ?e2 ?e3 ?_)
  case e2 => rw [L2.out]; omega
  case e3 => rw [HN.out]; omega
  intro W3 hW3 hU3
  have H3 := Lib.hid hW3
  have U3 := Lib.hid hU3
  clear hW3 hU3
  go_wp2
  go_ret
  obtain ⟨zs, hzs, hlen⟩ := grow_rows (r := r) hin C1.out.1 HN.out HZ.out
  have hl : (rs.take i ++ r :: rs.drop i).length = n + 1 := by simp [HN.out]; omega
  exact ⟨cap, by rw [hl]; rfl, ⟨zs, by rw [← hzs]; exact H3.out, by rw [hl]; exact hlen⟩, C1.out.2,
    (Upd.onto ((Upd.onto B1.out U2.out (by rw [SZ.out]; omega) (by intro j h1 h2; omega)).drew) U3.out (Nat.le_trans (by rw [SZ.out]; omega) U2.out.size) (by intro j h1 h2; omega))⟩
end Go.Proofs.Ytncfbaabhceeoaa

/- DERIVED. slices.Insert and slices.Replace at ranges: one element put in the place of some, or none. -/
namespace Go.Proofs.Ytncfbaabhceeoaa
open Go.RowKit

/-- What a call that turns one slice leaves: a slice that reads as ys, in the old row or a new one. -/
def Repl (w : World) (og : Option Nat) (ys : List Rg) (e : Ending) (w' : World) : Prop :=
  ∃ v' og', e = .returned v' ∧ Sl w' v' og' ys ∧ (og' = og ∨ ∃ g, og' = some g ∧ w.heap.size ≤ g) ∧ Upd (fun j => og = some j) w w'

theorem Repl.ofHead {w w' : World} {g n cap : Nat} {ys : List Rg} {e : Ending} (he : e = .returned (.slice (some ⟨g, 0, none⟩) n cap)) (hn : n = ys.length) (hh : Head w' g ys cap) (hc : cap ≤ 9223372036854775807) (hu : Upd (fun k => k = g) w w') :
    Repl w (some g) ys e w' := ⟨_, some g, he, hh.sl hc hn, .inl rfl, hu.mono (fun _ _ x => by rw [x])⟩
theorem Repl.ofFresh {w w' : World} {og : Option Nat} {ys : List Rg} {e : Ending} (h : Fresh w w' ys e) : Repl w og ys e w' := by
  obtain ⟨cap, he, hh, hc, hb⟩ := h
  exact ⟨_, some w.heap.size, he, hh.sl hc rfl, .inr ⟨_, rfl, Nat.le_refl _⟩, (Upd.below hb).mono (fun i hi h => by omega)⟩

theorem insert_any (v : Value) (og : Option Nat) (xs : List Rg) (i h : Nat) (r : Rg) (w : World) (hs : Sl w v og xs) (hi : i ≤ xs.length) (hh : RowR w h [r]) (hne : og ≠ some h) (hm : (xs.length + 1) * 16 ≤ 140737488355328) :
    Calls Try.prog 94 #[v, .int .i64 i, .slice (some ⟨h, 0, none⟩) 1 1] w (Repl w og (xs.take i ++ r :: xs.drop i)) := by
  rcases hs with ⟨rfl, rfl, rfl⟩ | ⟨g, ys, rfl, rfl, hg, hl⟩
  · obtain rfl : i = 0 := by simpa using hi
    exact (insert_nil h r w hh).mono fun e w' hf => Repl.ofFresh hf
  · have hgh : g ≠ h := fun e => hne (by rw [e])
    have t1 : (xs ++ ys).take i = xs.take i := List.take_append_of_le_length hi
    have t2 : (xs ++ ys).take xs.length = xs := by rw [List.take_append_of_le_length (Nat.le_refl _), List.take_length]
    have hlen : xs.length + 1 = (xs.take i ++ r :: xs.drop i).length := by simp; omega
    by_cases hroom : 0 < ys.length
    · by_cases hin : i < xs.length
      · refine (insert_shift g h (xs ++ ys) r i xs.length (xs.length + ys.length) w hin (by omega) (by simp) hg hh hgh hl).mono fun e w' ⟨he, hd, hu⟩ => ?_
        rw [t1, t2] at hd
        exact Repl.ofHead he hlen hd hl hu
      · obtain rfl : i = xs.length := by omega
        refine (insert_end g h (xs ++ ys) r xs.length (xs.length + ys.length) w (by omega) (by simp) hg hh hl).mono fun e w' ⟨he, hd, hu⟩ => ?_
        rw [t2] at hd
        have e1 : xs.take xs.length ++ r :: xs.drop xs.length = xs ++ [r] := by simp
        rw [e1]
        exact Repl.ofHead he (by simp) hd hl hu
    · obtain rfl : ys = [] := List.eq_nil_of_length_eq_zero (by omega)
      simp only [List.append_nil, List.length_nil, Nat.add_zero] at hg ⊢
      by_cases hin : i < xs.length
      · exact (insert_grow g h xs r i xs.length w hin rfl hg hh hm).mono fun e w' hf => Repl.ofFresh hf
      · obtain rfl : i = xs.length := by omega
        have e1 : xs.take xs.length ++ r :: xs.drop xs.length = xs ++ [r] := by simp
        rw [e1]
        exact (insert_end_grow g h xs r xs.length w rfl hg hh hm).mono fun e w' hf => Repl.ofFresh hf

set_option maxRecDepth 100000 in
set_option maxHeartbeats 400000 in
theorem replace_insert_nil (h : Nat) (w : World) (og : Option Nat) (ys : List Rg)
    (hi : Calls Try.prog 94 #[.slice none 0 0, .int .i64 0, .slice (some ⟨h, 0, none⟩) 1 1] w (Repl w og ys)) :
    Calls Try.prog 78 #[.slice none 0 0, .int .i64 0, .int .i64 0, .slice (some ⟨h, 0, none⟩) 1 1] w (Repl w og ys) := by
  have HI := Lib.hid hi
  clear hi
  go_enter Try.func78, Try.ntmps78
  go_wp2_with fail
  refine HI.out.mono ?_
  rintro e w' ⟨v, og', rfl, h1, h2, h3⟩
  have HH := Lib.hid (show Repl w og ys (.returned v) w' from ⟨v, og', rfl, h1, h2, h3⟩)
  clear h1 h2 h3 HI
  go_wp2
  go_ret
  exact HH.out

set_option maxRecDepth 100000 in
set_option maxHeartbeats 400000 in
theorem replace_insert (g n cap : Nat) (i h : Nat) (w : World) (og : Option Nat) (ys : List Rg) (hin : i ≤ n) (hnc : n ≤ cap) (_hcap : cap ≤ 9223372036854775807)
    (hi : Calls Try.prog 94 #[.slice (some ⟨g, 0, none⟩) n cap, .int .i64 i, .slice (some ⟨h, 0, none⟩) 1 1] w (Repl w og ys)) :
    Calls Try.prog 78 #[.slice (some ⟨g, 0, none⟩) n cap, .int .i64 i, .int .i64 i, .slice (some ⟨h, 0, none⟩) 1 1] w (Repl w og ys) := by
  by_cases hci : cap = i
  · subst hci
    have HI := Lib.hid hi
    clear hi
    go_enter Try.func78, Try.ntmps78
    go_wp2_with fail
    refine HI.out.mono ?_
    rintro e w' ⟨v, og', rfl, h1, h2, h3⟩
    have HH := Lib.hid (show Repl w og ys (.returned v) w' from ⟨v, og', rfl, h1, h2, h3⟩)
    clear h1 h2 h3 HI
    go_wp2
    go_ret
    exact HH.out
  · have HI := Lib.hid hi
    clear hi
    go_enter Try.func78, Try.ntmps78
    go_wp2_with fail
    refine HI.out.mono ?_
    rintro e w' ⟨v, og', rfl, h1, h2, h3⟩
    have HH := Lib.hid (show Repl w og ys (.returned v) w' from ⟨v, og', rfl, h1, h2, h3⟩)
    clear h1 h2 h3 HI
    go_wp2
    go_ret
    exact HH.out

theorem replace_any (v : Value) (og : Option Nat) (xs : List Rg) (i k h : Nat) (r : Rg) (w : World) (hs : Sl w v og xs) (hi : i ≤ k) (hk : k ≤ xs.length) (hh : RowR w h [r]) (hne : og ≠ some h) (hm : (xs.length + 1) * 16 ≤ 140737488355328) :
    Calls Try.prog 78 #[v, .int .i64 i, .int .i64 k, .slice (some ⟨h, 0, none⟩) 1 1] w (Repl w og (xs.take i ++ r :: xs.drop k)) := by
  by_cases hik : i = k
  · subst hik
    have h1 := insert_any v og xs i h r w hs hk hh hne hm
    rcases hs with ⟨rfl, rfl, rfl⟩ | ⟨g, ys, rfl, rfl, hg, hl⟩
    · obtain rfl : i = 0 := by simpa using hk
      exact replace_insert_nil h w _ _ h1
    · exact replace_insert _ _ _ i h w _ _ hk (by omega) hl h1
  · rcases hs with ⟨rfl, rfl, rfl⟩ | ⟨g, ys, rfl, rfl, hg, hl⟩
    · simp at hk
      omega
    · have hgh : g ≠ h := fun e => hne (by rw [e])
      have t1 : (xs ++ ys).take i = xs.take i := List.take_append_of_le_length (by omega)
      have t2 : (xs ++ ys).take xs.length = xs := by rw [List.take_append_of_le_length (Nat.le_refl _), List.take_length]
      by_cases hkn : k < xs.length
      · refine (replace_mid g h (xs ++ ys) r i k xs.length (xs.length + ys.length) w (by omega) hkn (by omega) (by simp) hg hh hgh hl).mono fun e w' ⟨he, hd, hu⟩ => ?_
        rw [t1, t2] at hd
        exact Repl.ofHead he (by simp; omega) hd hl hu
      · obtain rfl : k = xs.length := by omega
        refine (replace_end g h (xs ++ ys) r i xs.length (xs.length + ys.length) w (by omega) (by omega) (by simp) hg hh hgh hl).mono fun e w' ⟨he, hd, hu⟩ => ?_
        rw [t1] at hd
        have e1 : xs.take i ++ r :: xs.drop xs.length = xs.take i ++ [r] := by simp
        rw [e1]
        exact Repl.ofHead he (by simp; omega) hd hl hu
end Go.Proofs.Ytncfbaabhceeoaa

/- DERIVED. Walk of slices.Delete at ranges: some from the front on, not all. -/
namespace Go.Proofs.Ytncfbaabhceeoaa
open Go.RowKit

theorem delete_rows {rs : List Rg} {n len cap : Nat} (hn : n < len) (hc : len ≤ cap) (hrs : rs.length = cap) :
    ∃ zs, splice (splice rs 0 ((rs.drop n).take (len - n))) (len - n) (List.replicate n (0, 0)) = (rs.take len).drop n ++ zs ∧ len - n + zs.length = cap := by
  have ml : ((rs.drop n).take (len - n)).length = len - n := by rw [List.length_take, List.length_drop]; omega
  have l1 : (splice rs 0 ((rs.drop n).take (len - n))).length = cap := by rw [splice_len _ _ _ (by rw [ml]; omega), hrs]
  have l2 : (splice (splice rs 0 ((rs.drop n).take (len - n))) (len - n) (List.replicate n ((0, 0) : Rg))).length = cap := by rw [splice_len _ _ _ (by rw [l1]; simp; omega), l1]
  have t1 : (splice rs 0 ((rs.drop n).take (len - n))).take (len - n) = (rs.take len).drop n := by
    have := splice_take_end (L := rs) (c := (rs.drop n).take (len - n)) (o := 0) (by omega)
    rw [ml, Nat.zero_add] at this
    rw [this, List.take_zero, List.nil_append, List.drop_take]
  refine ⟨(splice (splice rs 0 ((rs.drop n).take (len - n))) (len - n) (List.replicate n ((0, 0) : Rg))).drop (len - n), ?_, ?_⟩
  · rw [← t1, ← splice_take_lt (L := splice rs 0 ((rs.drop n).take (len - n))) (c := List.replicate n ((0, 0) : Rg)) (o := len - n) (m := len - n) (Nat.le_refl _) (by rw [l1]; omega), List.take_append_drop]
  · rw [List.length_drop, l2]; omega

set_option maxRecDepth 100000 in
set_option maxHeartbeats 400000 in
theorem delete_front (g : Nat) (rs : List Rg) (n len cap : Nat) (w : World) (hn0 : 0 < n) (hn : n < len) (hc : len ≤ cap) (hrs : rs.length = cap) (hg : RowR w g rs) (_hm : cap ≤ 9223372036854775807) :
    Calls Try.prog 93 #[.slice (some ⟨g, 0, none⟩) len cap, .int .i64 0, .int .i64 n] w
      fun e w' => e = .returned (.slice (some ⟨g, 0, none⟩) (len - n) cap) ∧ Head w' g ((rs.take len).drop n) cap ∧ Upd (fun k => k = g) w w' := by
  obtain ⟨i0, hi, hz0, hz1, hz2⟩ := info_parts infoR
  have HG := Lib.hid hg
  have HN := Lib.hid hrs
  clear hg hrs
  go_enter Try.func93, Try.ntmps93
  go_wp2_with fail
  have f6 : ¬ cap = n := by omega
  have f7 : n ≤ len := by omega
  have f8 : (n : Int) ≤ (len : Int) := by omega
  go_still_tail 6, (by kernel_rfl)
  change wpList _ _ _ _ _ w.drew
  clear f6 f7 f8
  go_wp2_with (refine wpList_append_at encR_len encR_one Try.underlying37 hi hz1 rfl (.tmp 22) (.tmp 25) rfl (by exact HG.out) (by exact HG.out) 0 n rfl rfl rfl rfl ?c1 ?c2 ?c3 ?_)
  case c1 => omega
  case c2 => rw [HN.out]; omega
  case c3 => rw [HN.out]; omega
  intro W1 hW1 hU1
  try simp only [Nat.zero_add, Nat.add_zero] at hW1
  have H1 := Lib.hid hW1
  have U1 := Lib.hid hU1
  have L1 := Lib.hid (show (splice rs 0 ((rs.drop n).take (len - n))).length = cap by rw [splice_len _ _ _ (by rw [HN.out, List.length_take, List.length_drop, HN.out]; omega), HN.out])
  clear hW1 hU1
  go_wp2_with (refine wpList_clear_at encR_len encR_one Try.underlying37 hi hz0 zeroR rfl (.tmp 31) rfl (by exact H1.out) (len - n) (len - (len - n)) rfl rfl ?d3 ?_)
  case d3 => rw [L1.out]; omega
  intro W2 hW2 hU2
  rw [show len - (len - n) = n by omega] at hW2
  have H2 := Lib.hid hW2
  have U2 := Lib.hid hU2
  clear hW2 hU2
  go_wp2
  go_ret
  refine ⟨rfl, ?_, ((Upd.refl _ w).drew.then U1.out).then U2.out⟩
  obtain ⟨zs, hzs, hl⟩ := delete_rows hn hc HN.out
  exact ⟨zs, by rw [← hzs]; exact H2.out, by rw [List.length_drop, List.length_take, HN.out, Nat.min_eq_left hc]; exact hl⟩
end Go.Proofs.Ytncfbaabhceeoaa

/- DERIVED. Plain: lists of ranges: what each call makes of them. -/
namespace Go.Proofs.Ytncfbaabhceeoaa
open Go.RowKit

def hasP (n : Nat) (r : Rg) : Bool := decide (r.1 ≤ n) && decide (n < r.2)
def meetP (lo hi : Nat) (r : Rg) : Bool := decide (r.1 < hi) && decide (lo < r.2)
theorem take_any {p : Rg → Bool} {xs : List Rg} {k : Nat} {r : Rg} (h : xs[k]? = some r) : (xs.take (k + 1)).any p = ((xs.take k).any p || p r) := by
  rw [List.take_add_one, h]
  simp
def trimL (most : Int) (xs : List Rg) : List Rg := xs.drop (xs.length - most.toNat)
def mostOf (m : Int) : Int := if m ≤ 1 then 1 else m
theorem mostOf_pos (m : Int) : 1 ≤ mostOf m := by unfold mostOf; split <;> omega
/-- Where the search for the first range that meets or touches ends; and the one behind the last. -/
def iOf (xs : List Rg) (lo : Nat) : Nat := (xs.takeWhile (fun x => decide (x.2 < lo))).length
def kOf (xs : List Rg) (i hi : Nat) : Nat := i + ((xs.drop i).takeWhile (fun x => decide (x.1 ≤ hi))).length
def fuse (r : Rg) (m : List Rg) : Rg := m.foldl (fun r x => (min r.1 x.1, max r.2 x.2)) r
def addRaw (xs : List Rg) (lo hi : Nat) : List Rg :=
  xs.take (iOf xs lo) ++ fuse (lo, hi) ((xs.take (kOf xs (iOf xs lo) hi)).drop (iOf xs lo)) :: xs.drop (kOf xs (iOf xs lo) hi)
def addL (most : Int) (xs : List Rg) (lo hi : Nat) : List Rg := trimL most (addRaw xs lo hi)
theorem tw_le (p : Rg → Bool) (xs : List Rg) : (xs.takeWhile p).length ≤ xs.length := (List.takeWhile_prefix p).length_le
theorem tw_lt {p : Rg → Bool} : ∀ {xs : List Rg} {j : Nat}, j < (xs.takeWhile p).length → ∃ r, xs[j]? = some r ∧ p r = true
  | [], j, h => by simp at h
  | x :: xs, j, h => by
    cases hp : p x with
    | true =>
      rw [List.takeWhile_cons_of_pos hp] at h
      cases j with
      | zero => exact ⟨x, rfl, hp⟩
      | succ j =>
        obtain ⟨r, h1, h2⟩ := tw_lt (xs := xs) (j := j) (by simpa using h)
        exact ⟨r, by simpa using h1, h2⟩
    | false =>
      rw [List.takeWhile_cons_of_neg (by simp [hp])] at h
      simp at h
theorem tw_end {p : Rg → Bool} : ∀ {xs : List Rg} {r : Rg}, xs[(xs.takeWhile p).length]? = some r → p r = false
  | [], r, h => by simp at h
  | x :: xs, r, h => by
    cases hp : p x with
    | true =>
      rw [List.takeWhile_cons_of_pos hp] at h
      simp only [List.length_cons, List.getElem?_cons_succ] at h
      exact tw_end h
    | false =>
      rw [List.takeWhile_cons_of_neg (by simp [hp])] at h
      simp at h
      subst h
      exact hp
theorem iOf_lt {xs : List Rg} {lo j : Nat} (h : j < iOf xs lo) : ∃ r, xs[j]? = some r ∧ r.2 < lo := by
  obtain ⟨r, h1, h2⟩ := tw_lt h
  exact ⟨r, h1, by simpa using h2⟩
theorem iOf_end {xs : List Rg} {lo : Nat} {r : Rg} (h : xs[iOf xs lo]? = some r) : lo ≤ r.2 := by
  have := tw_end h
  simpa using this
theorem iOf_le (xs : List Rg) (lo : Nat) : iOf xs lo ≤ xs.length := tw_le _ _
theorem kOf_le {xs : List Rg} {i : Nat} (hi : Nat) (h : i ≤ xs.length) : kOf xs i hi ≤ xs.length := by
  unfold kOf
  have := tw_le (fun x => decide (x.1 ≤ hi)) (xs.drop i)
  rw [List.length_drop] at this
  omega
theorem kOf_ge (xs : List Rg) (i hi : Nat) : i ≤ kOf xs i hi := by unfold kOf; omega
theorem kOf_lt {xs : List Rg} {i hi j : Nat} (h1 : i ≤ j) (h : j < kOf xs i hi) : ∃ r, xs[j]? = some r ∧ r.1 ≤ hi := by
  unfold kOf at h
  obtain ⟨r, h2, h3⟩ := tw_lt (p := fun x => decide (x.1 ≤ hi)) (xs := xs.drop i) (j := j - i) (by omega)
  rw [List.getElem?_drop, show i + (j - i) = j by omega] at h2
  exact ⟨r, h2, by simpa using h3⟩
theorem kOf_end {xs : List Rg} {i hi : Nat} {r : Rg} (h : xs[kOf xs i hi]? = some r) : hi < r.1 := by
  unfold kOf at h
  rw [← List.getElem?_drop] at h
  have := tw_end h
  simpa using this
theorem fuse_step {r x : Rg} {xs : List Rg} {i k : Nat} (hik : i ≤ k) (hx : xs[k]? = some x) :
    fuse r ((xs.take (k + 1)).drop i) = (min (fuse r ((xs.take k).drop i)).1 x.1, max (fuse r ((xs.take k).drop i)).2 x.2) := by
  have hk : k < xs.length := (List.getElem?_eq_some_iff.1 hx).1
  rw [List.take_add_one, hx, List.drop_append_of_le_length (by rw [List.length_take]; omega)]
  simp [fuse]
/-- Rising ranges, none touching another, of numbers that may be. -/
def Norm (xs : List Rg) : Prop := (∀ r ∈ xs, r.1 < r.2 ∧ r.2 ≤ 4611686018427387904) ∧ xs.Pairwise (fun a b => a.2 < b.1)
theorem Norm.at {xs : List Rg} (h : Norm xs) {k : Nat} {r : Rg} (hr : xs[k]? = some r) : r.1 < r.2 ∧ r.2 ≤ 4611686018427387904 := h.1 r (List.mem_of_getElem? hr)
def topL (xs : List Rg) : Nat := match xs.getLast? with | some r => r.2 - 1 | none => 0
def someL (xs : List Rg) : Bool := match xs with | [] => false | _ => true
def cntL (xs : List Rg) : Nat := (xs.map fun r => r.2 - r.1).sum
theorem cntL_take {xs : List Rg} {k : Nat} {r : Rg} (h : xs[k]? = some r) : cntL (xs.take (k + 1)) = cntL (xs.take k) + (r.2 - r.1) := by
  rw [List.take_add_one, h]
  simp [cntL]
theorem cntL_room : ∀ (xs : List Rg) (a : Nat), Norm xs → (∀ r ∈ xs, a ≤ r.1) → a ≤ 4611686018427387904 → cntL xs + a ≤ 4611686018427387904
  | [], a, _, _, ha => by simpa [cntL] using ha
  | r :: xs, a, hn, hl, _ => by
    obtain ⟨h1, h2⟩ := List.pairwise_cons.1 hn.2
    have hr := hn.1 r (List.mem_cons_self ..)
    have := cntL_room xs r.2 ⟨fun x hx => hn.1 x (List.mem_cons_of_mem _ hx), h2⟩ (fun x hx => Nat.le_of_lt (h1 x hx)) hr.2
    have ha := hl r (List.mem_cons_self ..)
    have : cntL (r :: xs) = r.2 - r.1 + cntL xs := by simp [cntL]
    omega
theorem Norm.take {xs : List Rg} (h : Norm xs) (k : Nat) : Norm (xs.take k) :=
  ⟨fun r hr => h.1 r (List.mem_of_mem_take hr), h.2.sublist (List.take_sublist _ _)⟩
theorem cntL_le {xs : List Rg} (h : Norm xs) : cntL xs ≤ 4611686018427387904 := by
  have := cntL_room xs 0 h (fun _ _ => Nat.zero_le _) (by omega)
  omega
/-- From where, and up to where: what Gap's loop leaves. -/
def gapF : List Rg → Nat → Nat → Nat × Nat
  | [], f, t => (f, t)
  | r :: rs, f, t => if r.2 ≤ f then gapF rs f t else if f < r.1 then (f, min t r.1) else gapF rs r.2 t
def gapL (xs : List Rg) (f t : Nat) : Rg × Bool := if (gapF xs f t).2 ≤ (gapF xs f t).1 then ((0, 0), false) else (gapF xs f t, true)
theorem drop_at {xs : List Rg} {k : Nat} {r : Rg} (h : xs[k]? = some r) : xs.drop k = r :: xs.drop (k + 1) := by
  obtain ⟨h1, h2⟩ := List.getElem?_eq_some_iff.1 h
  rw [← h2]
  exact List.drop_eq_getElem_cons h1
def cut1 (lo hi : Nat) (r : Rg) : List Rg :=
  if hi ≤ lo ∨ r.2 ≤ lo ∨ hi ≤ r.1 then [r] else (if r.1 < lo then [(r.1, lo)] else []) ++ (if hi < r.2 then [(hi, r.2)] else [])
def cutRaw (lo hi : Nat) (xs : List Rg) : List Rg := xs.flatMap (cut1 lo hi)
theorem cut1_len (lo hi : Nat) (r : Rg) : (cut1 lo hi r).length ≤ 2 := by
  unfold cut1
  repeat' split
  all_goals simp
theorem cutRaw_take {lo hi : Nat} {xs : List Rg} {k : Nat} {r : Rg} (h : xs[k]? = some r) : cutRaw lo hi (xs.take (k + 1)) = cutRaw lo hi (xs.take k) ++ cut1 lo hi r := by
  rw [List.take_add_one, h]
  simp [cutRaw]
theorem cutRaw_len (lo hi : Nat) : ∀ xs : List Rg, (cutRaw lo hi xs).length ≤ 2 * xs.length
  | [] => by simp [cutRaw]
  | r :: xs => by
    have h1 := cut1_len lo hi r
    have h2 := cutRaw_len lo hi xs
    have : (cutRaw lo hi (r :: xs)).length = (cut1 lo hi r).length + (cutRaw lo hi xs).length := by simp [cutRaw]
    simp only [List.length_cons]
    omega
def fromR (f : Nat) (r : Rg) : Nat := if r.1 ≤ f ∧ f < r.2 then r.2 else f
def endR (f : Nat) (e : Nat) (r : Rg) : Nat := if f < r.1 then min e r.1 else e
def gapR (xs : List Rg) (f t : Nat) : Rg × Bool :=
  if t ≤ xs.foldl fromR f then ((0, 0), false) else ((xs.foldl fromR f, xs.foldl (endR (xs.foldl fromR f)) t), true)
theorem foldl_take {β : Type} (g : β → Rg → β) (b : β) {xs : List Rg} {k : Nat} {r : Rg} (h : xs[k]? = some r) : (xs.take (k + 1)).foldl g b = g ((xs.take k).foldl g b) r := by
  rw [List.take_add_one, h]
  simp
theorem from_lt {xs : List Rg} (h : Norm xs) : ∀ {f : Nat}, f < 18446744073709551616 → xs.foldl fromR f < 18446744073709551616 := by
  have h1 := h.1
  clear h
  induction xs with
  | nil => intro f hf; exact hf
  | cons r xs ih =>
    intro f hf
    refine ih (fun x hx => h1 x (List.mem_cons_of_mem _ hx)) (f := fromR f r) ?_
    have := h1 r (List.mem_cons_self ..)
    unfold fromR
    split <;> omega
theorem end_le (f : Nat) (xs : List Rg) : ∀ e : Nat, xs.foldl (endR f) e ≤ e := by
  induction xs with
  | nil => intro e; exact Nat.le_refl _
  | cons r xs ih =>
    intro e
    refine Nat.le_trans (ih (endR f e r)) ?_
    unfold endR
    split <;> omega
structure Ra where
  out : List Rg
  x : Rg
  done : Bool
def Ra.step (s : Ra) (r : Rg) : Ra :=
  if r.2 < s.x.1 then ⟨s.out ++ [r], s.x, s.done⟩
  else if s.x.2 < r.1 then ⟨(if s.done then s.out else s.out ++ [s.x]) ++ [r], s.x, true⟩
  else ⟨s.out, (min s.x.1 r.1, max s.x.2 r.2), s.done⟩
def raOf (lo hi : Nat) (xs : List Rg) : Ra := xs.foldl Ra.step ⟨[], (lo, hi), false⟩
def addR (lo hi : Nat) (xs : List Rg) : List Rg := if (raOf lo hi xs).done then (raOf lo hi xs).out else (raOf lo hi xs).out ++ [(raOf lo hi xs).x]
theorem raOf_take {lo hi : Nat} {xs : List Rg} {k : Nat} {r : Rg} (h : xs[k]? = some r) : raOf lo hi (xs.take (k + 1)) = (raOf lo hi (xs.take k)).step r := by
  rw [raOf, List.take_add_one, h]
  simp [raOf]
theorem Ra.step_len (s : Ra) (r : Rg) : (s.step r).out.length ≤ s.out.length + 2 := by
  unfold Ra.step
  repeat' split
  all_goals simp
theorem raOf_len (lo hi : Nat) : ∀ xs : List Rg, (raOf lo hi xs).out.length ≤ 2 * xs.length := by
  have h : ∀ (xs : List Rg) (s : Ra), (xs.foldl Ra.step s).out.length ≤ s.out.length + 2 * xs.length := by
    intro xs
    induction xs with
    | nil => intro s; simp
    | cons r xs ih =>
      intro s
      have h1 := ih (s.step r)
      have h2 := s.step_len r
      simp only [List.foldl_cons, List.length_cons]
      omega
  intro xs
  have := h xs ⟨[], (lo, hi), false⟩
  simpa [raOf] using this
end Go.Proofs.Ytncfbaabhceeoaa

/- DERIVED. A set of ranges in memory; trim, All, Len, Largest, Copy, New, Count. -/
namespace Go.Proofs.Ytncfbaabhceeoaa
open Go.RowKit

/-- A set: its block b, its list's value v in row og, at most so many. -/
def SetIs (w : World) (b : Nat) (most : Int) (v : Value) (og : Option Nat) (xs : List Rg) : Prop :=
  w.heap[b]? = some (.cells #[.int .i64 most, v] 126 (0, 0)) ∧ Sl w v og xs ∧ og ≠ some b
def SetAt (w : World) (b : Nat) (most : Int) (og : Option Nat) (xs : List Rg) : Prop := ∃ v, SetIs w b most v og xs

theorem SetIs.keeps {F : Nat → Prop} {w w' : World} {b : Nat} {most : Int} {v : Value} {og : Option Nat} {xs : List Rg} (h : SetIs w b most v og xs) (hu : Upd F w w') (hb : ¬ F b) (hF : ∀ g, og = some g → ¬ F g) : SetIs w' b most v og xs :=
  ⟨hu.keeps h.1 hb, h.2.1.keeps hu hF, h.2.2⟩
theorem SetIs.below {w w' : World} {b : Nat} {most : Int} {v : Value} {og : Option Nat} {xs : List Rg} (h : SetIs w b most v og xs) (hu : Below w.heap.size w w') : SetIs w' b most v og xs :=
  h.keeps (Upd.below hu) (by have := heap_lt h.1; omega) (fun g hg => by have := h.2.1.lt g hg; omega)
theorem SetAt.keeps {F : Nat → Prop} {w w' : World} {b : Nat} {most : Int} {og : Option Nat} {xs : List Rg} (h : SetAt w b most og xs) (hu : Upd F w w') (hb : ¬ F b) (hF : ∀ g, og = some g → ¬ F g) : SetAt w' b most og xs := by
  obtain ⟨v, h⟩ := h
  exact ⟨v, h.keeps hu hb hF⟩
theorem SetAt.below {w w' : World} {b : Nat} {most : Int} {og : Option Nat} {xs : List Rg} (h : SetAt w b most og xs) (hu : Below w.heap.size w w') : SetAt w' b most og xs := by
  obtain ⟨v, h⟩ := h
  exact ⟨v, h.below hu⟩

theorem Sl.shape {w : World} {v : Value} {og : Option Nat} {xs : List Rg} (h : Sl w v og xs) : ∃ oa cap, v = .slice oa xs.length cap ∧ xs.length ≤ cap ∧ cap ≤ 9223372036854775807 := by
  rcases h with ⟨rfl, rfl, _⟩ | ⟨g, ys, _, rfl, _, hl⟩
  · exact ⟨none, 0, rfl, Nat.le_refl _, by omega⟩
  · exact ⟨_, _, rfl, by omega, hl⟩
theorem Sl.at {w : World} {v : Value} {og : Option Nat} {xs : List Rg} (h : Sl w v og xs) {i : Nat} {r : Rg} (hi : xs[i]? = some r) :
    ∃ g cap, og = some g ∧ v = .slice (some ⟨g, 0, none⟩) xs.length cap ∧ w.cell? ⟨g, i * 2, none⟩ = some (.int .u64 r.1) ∧ w.cell? ⟨g, i * 2 + 1, none⟩ = some (.int .u64 r.2) := by
  rcases h with ⟨_, rfl, _⟩ | ⟨g, ys, rfl, rfl, hr, hl⟩
  · simp at hi
  · have hi' : (xs ++ ys)[i]? = some r := by
      obtain ⟨h1, h2⟩ := List.getElem?_eq_some_iff.1 hi
      rw [List.getElem?_append_left h1, hi]
    have h0 := hr.el encR_len i 0 (by omega) hi'
    have h1 := hr.el encR_len i 1 (by omega) hi'
    exact ⟨g, _, rfl, rfl, by simpa [encR] using h0, by simpa [encR] using h1⟩

theorem cell_in {w : World} {b o : Nat} {v : Value} (h : w.cell? ⟨b, o, none⟩ = some v) : b < w.heap.size := by
  unfold World.cell? at h
  rcases Nat.lt_or_ge b w.heap.size with h' | h'
  · exact h'
  · simp [Array.getElem?_eq_none h'] at h

theorem Sl.atS {w : World} {oa : Option Addr} {n cap : Nat} {og : Option Nat} {xs : List Rg} (h : Sl w (.slice oa n cap) og xs) {i : Nat} {r : Rg} (hi : xs[i]? = some r) :
    ∃ g, og = some g ∧ oa = some ⟨g, 0, none⟩ ∧ g < w.heap.size ∧ w.cell? ⟨g, i * 2, none⟩ = some (.int .u64 r.1) ∧ w.cell? ⟨g, i * 2 + 1, none⟩ = some (.int .u64 r.2) := by
  obtain ⟨g, cap', hog, hv, c0, c1⟩ := h.at hi
  simp only [Value.slice.injEq] at hv
  exact ⟨g, hog, hv.1, h.lt g hog, c0, c1⟩

/-- What a method that turns one set leaves. -/
def Turned (w : World) (b : Nat) (most : Int) (og : Option Nat) (ys : List Rg) (w' : World) : Prop :=
  ∃ og', SetAt w' b most og' ys ∧ (og' = og ∨ og' = none ∨ ∃ g, og' = some g ∧ w.heap.size ≤ g) ∧ Upd (fun j => j = b ∨ og = some j) w w'

theorem set_store {w : World} {b : Nat} {most : Int} {v : Value} (hb : w.heap[b]? = some (.cells #[.int .i64 most, v] 126 (0, 0))) (u : Value) :
    (w.setCell ⟨b, 1, none⟩ u).heap[b]? = some (.cells #[.int .i64 most, u] 126 (0, 0)) := by
  rw [set_at hb]
  rfl

set_option maxRecDepth 100000 in
set_option maxHeartbeats 400000 in
theorem trim_any (b : Nat) (most : Int) (og : Option Nat) (xs : List Rg) (w : World) (h : SetAt w b most og xs) (hm : 1 ≤ most) (hm2 : most ≤ 9223372036854775807) :
    Calls Try.prog 76 #[.pointer (some ⟨b, 0, none⟩)] w fun e w' => e = .returned (.tuple #[]) ∧ Turned w b most og (trimL most xs) w' := by
  obtain ⟨v, hb, hs, hne⟩ := h
  obtain ⟨oa, cap, hv, hcap, hcap2⟩ := hs.shape
  have c0 := cell_at hb 0
  have c1 := cell_at hb 1
  have f1 := free_at hb 1
  simp at c0 c1
  have HB := Lib.hid hb
  have HS := Lib.hid hs
  have HV := Lib.hid hv
  clear hb hs
  rw [hv] at c1
  clear hv
  generalize hn : xs.length = n at *
  have HN := Lib.hid hn
  clear hn
  by_cases hle : (n : Int) ≤ most
  · go_enter Try.func76, Try.ntmps76
    go_wp2_with fail
    go_quiet (fail)
    go_wp2
    refine bodyPost_end (results_none rfl _ _ _) rfl ?_
    refine ⟨rfl, og, ⟨v, ?_⟩, .inl rfl, (Upd.refl _ _).drewN _⟩
    have e : trimL most xs = xs := by
      unfold trimL
      rw [HN.out, show n - most.toNat = 0 by omega, List.drop_zero]
    rw [e]
    exact ⟨HB.out, HS.out, hne⟩
  · rcases HS.out with ⟨hv0, hx, _⟩ | ⟨g, ys, rfl, hv2, hr, hl⟩
    · have := HN.out
      rw [hx] at this
      simp at this
      omega
    · have e2 : oa = some ⟨g, 0, none⟩ ∧ cap = n + ys.length := by
        have := HV.out
        rw [hv2] at this
        simp only [Value.slice.injEq, HN.out] at this
        exact ⟨this.1.symm, this.2.2.symm⟩
      obtain ⟨rfl, rfl⟩ := e2
      have HR := Lib.hid hr
      clear hr hv2
      obtain ⟨m, hmm⟩ : ∃ m : Nat, (n : Int) - most = (m : Int) ∧ 0 < m ∧ m < n ∧ m = n - most.toNat := ⟨n - most.toNat, by omega, by omega, by omega, rfl⟩
      obtain ⟨hm1, hm3, hm4, hm5⟩ := hmm
      have HM := Lib.hid hm1
      have HM5 := Lib.hid hm5
      clear hm1 hm5
      go_enter Try.func76, Try.ntmps76
      go_wp2_with fail
      go_quiet (fail)
      go_wp2_with fail
      rw [HM.out]
      refine (delete_front g (xs ++ ys) m n (n + ys.length) _ hm3 hm4 (by omega) (by rw [List.length_append, HN.out]) (by exact HR.out) hcap2).mono ?_
      rintro e w' ⟨rfl, hd, hu⟩
      have HD := Lib.hid hd
      have HU := Lib.hid (((Upd.refl (fun k => k = g) w).drewN nq).then hu)
      have hgb : ¬ b = g := fun e => hne (by rw [e])
      have HB1 := Lib.hid (hu.keeps HB.out hgb)
      have fb := free_at HB1.out 1
      have cb := cell_at HB1.out 1
      simp at cb
      clear hd hu c0 c1 f1
      go_wp2
      refine bodyPost_end (results_none rfl _ _ _) rfl ?_
      have e : trimL most xs = ((xs ++ ys).take n).drop m := by
        unfold trimL
        rw [HN.out, ← HM5.out]
        congr 1
        rw [← HN.out, List.take_append_of_le_length (Nat.le_refl _), List.take_length]
      rw [e]
      refine ⟨rfl, some g, ⟨_, set_store HB1.out _, ?_, hne⟩, .inl rfl, ?_⟩
      · refine (HD.out.sl hcap2 ?_).keeps (F := fun j => j = b) (Upd.setCell (Upd.refl (fun j => j = b) w') ⟨b, 1, none⟩ (.inl rfl) _) (fun j hj => by cases hj; exact fun e => hgb e.symm)
        rw [List.length_drop, List.length_take, List.length_append, HN.out, Nat.min_eq_left (by omega)]
      · exact (HU.out.mono (fun i _ x => .inr (by rw [x]))).setCell _ (.inl (.inl rfl)) _

set_option maxHeartbeats 400000 in
theorem snew_any (m : Int) (w : World) : Calls Try.prog 55 #[.int .i64 m] w fun e w' => ∃ b, e = .returned (.pointer (some ⟨b, 0, none⟩)) ∧ w.heap.size ≤ b ∧ SetAt w' b (mostOf m) none [] ∧ Below w.heap.size w w' := by
  have hc : ∀ x : Int, mostOf m = x → Calls Try.prog 55 #[.int .i64 m] w fun e w' => e = .returned (.pointer (some ⟨w.heap.size, 0, none⟩)) ∧ w' = w.alloc (.cells #[.int .i64 x, .slice none 0 0] 126 (0, 0)) := by
    intro x hx
    unfold mostOf at hx
    by_cases hm : m ≤ 1
    · rw [if_pos hm] at hx
      subst hx
      go_enter Try.func55, Try.ntmps55
      go_wp2
      all_goals (first | (exfalso; omega) | skip)
      all_goals go_ret
      all_goals first | exact ⟨rfl, rfl⟩ | (obtain rfl : m = 1 := by omega; exact ⟨rfl, rfl⟩)
    · rw [if_neg hm] at hx
      subst hx
      go_enter Try.func55, Try.ntmps55
      go_wp2
      all_goals (first | (exfalso; omega) | skip)
      all_goals go_ret
      all_goals exact ⟨rfl, rfl⟩
  refine (hc _ rfl).mono fun e w' ⟨he, hw⟩ => ?_
  subst hw
  exact ⟨_, he, Nat.le_refl _, ⟨_, alloc_at _ _, Sl.nil _, by simp⟩, (Below.refl _ _).alloc (Nat.le_refl _) _⟩

/-- A new slice that reads as ys. -/
def Made (w : World) (ys : List Rg) (e : Ending) (w' : World) : Prop :=
  ∃ v' og', e = .returned v' ∧ Sl w' v' og' ys ∧ (∀ g, og' = some g → w.heap.size ≤ g) ∧ Below w.heap.size w w'

set_option maxRecDepth 100000 in
set_option maxHeartbeats 400000 in
theorem clone_any (v : Value) (og : Option Nat) (xs : List Rg) (w : World) (hs : Sl w v og xs) (hl : xs.length * 16 ≤ 140737488355328) :
    Calls Try.prog 81 #[v] w (Made w xs) := by
  obtain ⟨i0, hi, hz0, hz1, hz2⟩ := info_parts infoR
  have hnil := Lib.run_eql_slice_nil (P := Try.prog) w 37 92
  rcases hs with ⟨rfl, rfl, rfl⟩ | ⟨g, ys, rfl, rfl, hg, hcap⟩
  · go_enter Try.func81, Try.ntmps81
    go_wp2
    go_ret
    exact ⟨_, none, rfl, Sl.nil _, by simp, Below.refl _ _⟩
  · generalize hn : xs.length = n at *
    generalize hny : ys.length = ny at *
    have HG := Lib.hid hg
    have HN := Lib.hid hn
    have HY := Lib.hid hny
    clear hg hn hny
    have hrow0 : Row encR (w.alloc (.cells #[] 92)) 92 w.heap.size ([] : List Rg) := alloc_at _ _
    have HR0 := Lib.hid hrow0
    have HG1 := Lib.hid (show Row encR (w.alloc (.cells #[] 92)) 92 g (xs ++ ys) from alloc_old HG.out)
    have HB := Lib.hid ((Below.refl w.heap.size w).alloc (Nat.le_refl _) (.cells #[] 92))
    clear hrow0
    rcases Nat.eq_zero_or_pos n with h0 | h0
    · subst h0
      have hx : xs = [] := List.eq_nil_of_length_eq_zero HN.out
      go_enter Try.func81, Try.ntmps81
      go_wp2_with (refine wpList_append_at encR_len encR_one Try.underlying37 hi hz1 rfl (.tmp 5) (.tmp 6) rfl (by exact HR0.out) (by exact HG1.out) 0 0 rfl rfl rfl rfl ?c1 ?c2 ?c3 ?_)
      case c1 => omega
      case c2 => simp
      case c3 => omega
      intro W1 hW1 hU1
      have H1 := Lib.hid hW1
      have U1 := Lib.hid hU1
      clear hW1 hU1
      go_wp2
      go_ret
      subst hx
      exact ⟨_, some w.heap.size, rfl, .inr ⟨w.heap.size, [], rfl, rfl, by simpa [splice] using H1.out, by simp⟩, by simp, Upd.onto HB.out U1.out (by simp) (by intro j h1 h2; omega)⟩
    · have HS := Lib.hid (show (w.alloc (.cells #[] 92)).heap.size = w.heap.size + 1 by simp)
      go_enter Try.func81, Try.ntmps81
      go_wp2_with (refine wpList_append_fresh encR_len Try.underlying37 hi hz1 hz0 zeroR rfl (.tmp 5) (.tmp 6) rfl (by exact HR0.out) (by exact HG1.out) 0 0 rfl rfl rfl rfl ?c1 ?c2 ?c3 ?c4 ?c5 ?c6 ?_)
      case c1 => omega
      case c2 => simp
      case c3 => rw [List.length_append, HN.out]; omega
      case c4 => omega
      case c5 => omega
      case c6 => rw [hz2]; omega
      intro W1 cap hW1 hc1 hc2 hB1 hsz
      have e : (xs ++ ys).take n = xs := by rw [← HN.out, List.take_append_of_le_length (Nat.le_refl _), List.take_length]
      have H1 := Lib.hid (show RowR W1 (w.heap.size + 1) (xs ++ List.replicate (cap - n) (0, 0)) by simpa [e] using hW1)
      have B1 := Lib.hid (below_call HB.out (by simp) (show Below (w.alloc (.cells #[] 92)).heap.size (w.alloc (.cells #[] 92)) W1 by simpa using hB1))
      have C1 := Lib.hid (show n ≤ cap ∧ cap ≤ 9223372036854775807 from ⟨by omega, hc2⟩)
      clear hW1 hc1 hc2 hB1 hsz e
      go_wp2
      go_ret
      refine ⟨_, some (w.heap.size + 1), rfl, .inr ⟨w.heap.size + 1, _, rfl, ?_, H1.out, ?_⟩, fun g hg => by cases hg; omega, B1.out⟩
      · have := C1.out
        rw [HN.out, List.length_replicate, show n + (cap - n) = cap by omega]
        first | rfl | simp
      · have := C1.out
        rw [HN.out, List.length_replicate]
        omega

end Go.Proofs.Ytncfbaabhceeoaa

/- DERIVED. Walk of a set's All. -/
namespace Go.Proofs.Ytncfbaabhceeoaa
open Go.RowKit
set_option maxHeartbeats 400000 in
theorem all_any (b : Nat) (most : Int) (og : Option Nat) (xs : List Rg) (w : World) (h : SetAt w b most og xs) (hl : xs.length * 16 ≤ 140737488355328) :
    Calls Try.prog 65 #[.pointer (some ⟨b, 0, none⟩)] w (Made w xs) := by
  obtain ⟨v, hb, hs, hne⟩ := h
  have c1 := cell_at hb 1
  simp at c1
  have HS := Lib.hid hs
  clear hb hs
  go_enter Try.func65, Try.ntmps65
  go_wp2_with fail
  refine (clone_any _ _ _ _ HS.out hl).mono ?_
  rintro e w' ⟨v', og', rfl, h1, h2, h3⟩
  have HM := Lib.hid (show Made w xs (.returned v') w' from ⟨v', og', rfl, h1, h2, h3⟩)
  clear h1 h2 h3
  go_wp2
  go_ret
  exact HM.out
end Go.Proofs.Ytncfbaabhceeoaa
