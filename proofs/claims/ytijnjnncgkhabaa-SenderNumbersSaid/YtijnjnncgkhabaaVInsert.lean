/- DERIVED. Walk of slices.Insert at ranges: one element. -/
import Derived.Test.YtijnjnncgkhabaaVRng
import Derived.Lib.Overlaps
import Derived.Deep.DeepMust
namespace Go.Proofs.Ytijnjnncgkhabaa
open Go.RowKit

theorem insert_rows {rs : List Rg} {r : Rg} {i n cap : Nat} (hin : i ≤ n) (hnc : n < cap) (hrs : rs.length = cap) :
    ∃ zs, splice (splice rs (i + 1) ((rs.drop i).take (n - i))) i [r] = (rs.take i ++ r :: (rs.take n).drop i) ++ zs ∧ n + 1 + zs.length = cap := by
  have ml : ((rs.drop i).take (n - i)).length = n - i := by rw [List.length_take, List.length_drop]; omega
  have l1 : (splice rs (i + 1) ((rs.drop i).take (n - i))).length = cap := by rw [splice_len _ _ _ (by rw [ml]; omega), hrs]
  have l2 : (splice (splice rs (i + 1) ((rs.drop i).take (n - i))) i [r]).length = cap := by rw [splice_len _ _ _ (by rw [l1]; simp; omega), l1]
  have t1 : (splice rs (i + 1) ((rs.drop i).take (n - i))).take (n + 1) = rs.take (i + 1) ++ (rs.drop i).take (n - i) := by
    have := splice_take_end (L := rs) (c := (rs.drop i).take (n - i)) (o := i + 1) (by omega)
    rw [ml, show i + 1 + (n - i) = n + 1 by omega] at this
    exact this
  have t2 : (splice (splice rs (i + 1) ((rs.drop i).take (n - i))) i [r]).take (n + 1) = rs.take i ++ r :: (rs.take n).drop i := by
    have e : splice (splice rs (i + 1) ((rs.drop i).take (n - i))) i [r] = rs.take i ++ ([r] ++ (splice rs (i + 1) ((rs.drop i).take (n - i))).drop (i + 1)) := by
      have h0 : (splice rs (i + 1) ((rs.drop i).take (n - i))).take i = rs.take i := splice_take_lt (by omega) (by omega)
      unfold splice at h0 ⊢
      rw [h0]
      rfl
    have e2 : (splice rs (i + 1) ((rs.drop i).take (n - i))).drop (i + 1) = (rs.drop i).take (n - i) ++ rs.drop (n + 1) := by
      unfold splice
      rw [List.drop_append, List.drop_of_length_le (by rw [List.length_take]; omega), List.nil_append, show i + 1 - (rs.take (i + 1)).length = 0 by rw [List.length_take]; omega, List.drop_zero, ml, show i + 1 + (n - i) = n + 1 by omega]
    rw [e, e2, List.take_append, List.length_take, Nat.min_eq_left (by omega), List.take_take, Nat.min_eq_right (by omega), show n + 1 - i = (n - i) + 1 by omega]
    simp only [List.cons_append, List.nil_append, List.take_succ_cons]
    rw [List.take_append_of_le_length (by rw [ml]; omega), List.take_take, Nat.min_self, List.drop_take]
  refine ⟨(splice (splice rs (i + 1) ((rs.drop i).take (n - i))) i [r]).drop (n + 1), ?_, ?_⟩
  · rw [← t2, List.take_append_drop]
  · rw [List.length_drop, l2]; omega

theorem sizeR (w : World) : (Go.sizeOf 53).run Try.prog w = .ok 2 w := by
  obtain ⟨i0, hi, hz0, hz1, hz2⟩ := info_parts infoR
  simp [Go.sizeOf, typeInfo, hi, hz1]

theorem overlaps_not {E E' : TypeId} (g h : Nat) (rs : List Rg) (r : Rg) (o lb cb : Nat) (w : World) (hrs : 0 < rs.length) (hg : RowR E w g rs) (hh : RowR E' w h [r]) (hgh : g ≠ h) :
    (callFunc 176 #[.slice (some ⟨h, 0, none⟩) 1 1, .slice (some ⟨g, o, none⟩) lb cb]).run Try.prog w = .ok (.value (.bool false)) w := by
  rw [run_callFunc_extern Try.func176 (by kernel_rfl) (by kernel_rfl) (by kernel_rfl) (e := Extern.SlicesOverlaps.overlaps #[49, 49] #[4]) (by kernel_rfl),
    Lib.run_overlaps_apart w 49 4 53 Try.underlying49 2 sizeR ⟨h, 0, none⟩ ⟨g, o, none⟩ 1 1 lb cb (fun e => hgh e.symm) E' E 2 (rs.length * 2)
      (by simp [World.shape?, show w.heap[h]? = _ from hh, flat, encR]) (by simp [World.shape?, show w.heap[g]? = _ from hg, flat_length encR_len]) (by omega) (hh.free 0) (hh.free 2)]
  rfl

set_option maxRecDepth 100000 in
set_option maxHeartbeats 400000 in
theorem insert_shift {E E' : TypeId} (g h : Nat) (rs : List Rg) (r : Rg) (i n cap : Nat) (w : World) (hin : i < n) (hnc : n < cap) (hrs : rs.length = cap) (hg : RowR E w g rs) (hh : RowR E' w h [r]) (ho : ∀ a ∈ rs.take n, oneR a) (hr1 : oneR r) (hgh : g ≠ h) (hm : cap ≤ 9223372036854775807) :
    Calls Try.prog 175 #[.slice (some ⟨g, 0, none⟩) n cap, .int .i64 i, .slice (some ⟨h, 0, none⟩) 1 1] w
      fun e w' => e = .returned (.slice (some ⟨g, 0, none⟩) (n + 1) cap) ∧ Head E w' g (rs.take i ++ r :: (rs.take n).drop i) cap ∧ Upd (fun k => k = g) w w' := by
  obtain ⟨i0, hi, hz0, hz1, hz2⟩ := info_parts infoR
  have hov := fun o lb cb => overlaps_not g h rs r o lb cb w (by omega) hg hh hgh
  have HG := Lib.hid hg
  have HH := Lib.hid hh
  have HN := Lib.hid hrs
  have HO := Lib.hid ho
  have HR1 := Lib.hid hr1
  clear hg hh hrs ho hr1
  go_enter Try.func175, Try.ntmps175
  go_wp2_with (simp only [hov])
  go_wp2_with fail
  clear hov
  have f1 : IntKind.i64.wrap ((i : Int) + 1) = (i : Int) + 1 := IntWalk.i64_in _ (by omega)
  have f2 : ((i : Int) + 1).toNat = i + 1 := by omega
  have f3 : (0 : Int) ≤ (i : Int) + 1 := by omega
  have f4 : (i : Int) + 1 ≤ (n : Int) + 1 := by omega
  have f5 : ¬ cap = i + 1 := by omega
  have f6 : ¬ cap = i := by omega
  have f7 : i ≤ n + 1 := by omega
  have f8 : i ≤ n := by omega
  have f9 : (i : Int) ≤ (n : Int) + 1 := by omega
  go_still_tail 8, (by kernel_rfl)
  change wpList _ _ _ _ _ w.drew
  clear f1 f2 f3 f4 f5 f6 f7 f8 f9
  go_wp2_with (refine wpList_copy_at encR_len encR_one Try.underlying49 hi hz1 rfl (.tmp 73) (.tmp 76) 49 rfl (by exact HG.out) (by exact HG.out) (i + 1) i (n - i) rfl rfl rfl rfl ?d1 ?d2 ?d3 ?dp ?_)
  case d1 => omega
  case d2 => rw [HN.out]; omega
  case d3 => rw [HN.out]; omega
  case dp =>
    intro a ha
    refine HO.out a ?_
    rw [← show (rs.take n).drop i = (rs.drop i).take (n - i) from List.drop_take] at ha
    exact List.mem_of_mem_drop ha
  intro W1 hW1 hU1
  have H1 := Lib.hid hW1
  have U1 := Lib.hid hU1
  have HH1 := Lib.hid (hU1.keeps HH.out (fun e => hgh e.symm))
  have L1 := Lib.hid (show (splice rs (i + 1) ((rs.drop i).take (n - i))).length = cap by rw [splice_len _ _ _ (by rw [HN.out, List.length_take, List.length_drop, HN.out]; omega), HN.out])
  clear hW1 hU1
  go_wp2_with (refine wpList_copy_at encR_len encR_one Try.underlying49 hi hz1 rfl (.tmp 80) (.tmp 81) 49 rfl (by exact H1.out) (ss := [r]) (by exact HH1.out) i 0 1 rfl rfl rfl rfl ?e1 ?e2 ?e3 ?ep ?_)
  case e1 => omega
  case e2 => rw [L1.out]; omega
  case e3 => exact Nat.le_refl _
  case ep => intro a ha; simp at ha; subst ha; exact HR1.out
  intro W2 hW2 hU2
  have H2 := Lib.hid (show Row encR W2 E g (splice (splice rs (i + 1) ((rs.drop i).take (n - i))) i [r]) by simpa using hW2)
  have U2 := Lib.hid hU2
  clear hW2 hU2
  go_wp2
  go_ret
  refine ⟨rfl, ?_, ((Upd.refl _ w).drew.then U1.out).then U2.out⟩
  obtain ⟨zs, hzs, hlen⟩ := insert_rows (r := r) (Nat.le_of_lt hin) hnc HN.out
  exact ⟨zs, by rw [← hzs]; exact H2.out, by simp only [List.length_append, List.length_take, List.length_drop, List.length_cons, HN.out]; omega⟩

set_option maxRecDepth 100000 in
set_option maxHeartbeats 400000 in
theorem insert_end {E E' : TypeId} (g h : Nat) (rs : List Rg) (r : Rg) (n cap : Nat) (w : World) (hnc : n < cap) (hrs : rs.length = cap) (hg : RowR E w g rs) (hh : RowR E' w h [r]) (hr1 : oneR r) (hm : cap ≤ 9223372036854775807) :
    Calls Try.prog 175 #[.slice (some ⟨g, 0, none⟩) n cap, .int .i64 n, .slice (some ⟨h, 0, none⟩) 1 1] w
      fun e w' => e = .returned (.slice (some ⟨g, 0, none⟩) (n + 1) cap) ∧ Head E w' g (rs.take n ++ [r]) cap ∧ Upd (fun k => k = g) w w' := by
  obtain ⟨i0, hi, hz0, hz1, hz2⟩ := info_parts infoR
  have HG := Lib.hid hg
  have HH := Lib.hid hh
  have HN := Lib.hid hrs
  have HR1 := Lib.hid hr1
  clear hg hh hrs hr1
  go_enter Try.func175, Try.ntmps175
  go_wp2_with (refine wpList_append_at encR_len encR_one Try.underlying49 hi hz1 rfl (.tmp 23) (.tmp 24) rfl (by exact HG.out) (ss := [r]) (by exact HH.out) 0 0 rfl rfl rfl rfl ?c1 ?c2 ?c3 ?cp ?_)
  case c1 => omega
  case c2 => rw [HN.out]; omega
  case c3 => exact Nat.le_refl _
  case cp => intro a ha; simp at ha; subst ha; exact HR1.out
  intro W1 hW1 hU1
  have H1 := Lib.hid (show Row encR W1 E g (splice rs n [r]) by simpa using hW1)
  have U1 := Lib.hid hU1
  clear hW1 hU1
  go_wp2
  go_ret
  refine ⟨rfl, ?_, U1.out⟩
  refine ⟨rs.drop (n + 1), ?_, by simp only [List.length_append, List.length_take, List.length_drop, List.length_cons, List.length_nil, HN.out]; omega⟩
  have e : splice rs n [r] = rs.take n ++ [r] ++ rs.drop (n + 1) := by simp [splice]
  rw [← e]
  exact H1.out

/-- A new row g' that begins with xs. -/
def Fresh (w w' : World) (xs : List Rg) (e : Ending) : Prop := ∃ cap, e = .returned (.slice (some ⟨w.heap.size, 0, none⟩) xs.length cap) ∧ Head 53 w' w.heap.size xs cap ∧ cap ≤ 9223372036854775807 ∧ Below w.heap.size w w'

set_option maxRecDepth 100000 in
set_option maxHeartbeats 400000 in
theorem insert_end_grow {E E' : TypeId} (g h : Nat) (rs : List Rg) (r : Rg) (n : Nat) (w : World) (hrs : rs.length = n) (hg : RowR E w g rs) (hh : RowR E' w h [r]) (hm : (n + 1) * 16 ≤ 140737488355328) :
    Calls Try.prog 175 #[.slice (some ⟨g, 0, none⟩) n n, .int .i64 n, .slice (some ⟨h, 0, none⟩) 1 1] w
      fun e w' => Fresh w w' (rs ++ [r]) e := by
  obtain ⟨i0, hi, hz0, hz1, hz2⟩ := info_parts infoR
  have HG := Lib.hid hg
  have HH := Lib.hid hh
  have HN := Lib.hid hrs
  clear hg hh hrs
  go_enter Try.func175, Try.ntmps175
  go_wp2_with (refine wpList_append_fresh encR_len Try.underlying49 hi hz1 hz0 zeroR rfl (.tmp 23) (.tmp 24) rfl (by exact HG.out) (ss := [r]) (by exact HH.out) 0 0 rfl rfl rfl rfl ?c1 ?c2 ?c3 ?c4 ?c5 ?c6 ?_)
  case c1 => omega
  case c2 => rw [HN.out]; omega
  case c3 => exact Nat.le_refl _
  case c4 => omega
  case c5 => omega
  case c6 => rw [hz2]; omega
  intro W1 cap hW1 hc1 hc2 hB1 hsz
  have H1 := Lib.hid (show RowR 53 W1 w.heap.size ((rs ++ [r]) ++ List.replicate (cap - (n + 1)) z0) by
    have e : rs.take n = rs := List.take_of_length_le (by rw [HN.out]; omega)
    simpa [e] using hW1)
  have B1 := Lib.hid hB1
  have C1 := Lib.hid (show n + 1 ≤ cap ∧ cap ≤ 9223372036854775807 from ⟨hc1, hc2⟩)
  clear hW1 hc1 hc2 hB1 hsz
  go_wp2
  go_ret
  have hl : (rs ++ [r]).length = n + 1 := by simp [HN.out]
  exact ⟨cap, by rw [hl]; rfl, ⟨_, H1.out, by rw [hl, List.length_replicate]; have := C1.out; omega⟩, C1.out.2, B1.out⟩

set_option maxRecDepth 100000 in
set_option maxHeartbeats 400000 in
theorem insert_nil {E' : TypeId} (h : Nat) (r : Rg) (w : World) (hh : RowR E' w h [r]) :
    Calls Try.prog 175 #[.slice none 0 0, .int .i64 0, .slice (some ⟨h, 0, none⟩) 1 1] w
      fun e w' => Fresh w w' [r] e := by
  obtain ⟨i0, hi, hz0, hz1, hz2⟩ := info_parts infoR
  have HH := Lib.hid hh
  clear hh
  go_enter Try.func175, Try.ntmps175
  go_wp2_with (refine wpList_append_nil encR_len Try.underlying49 hi hz1 hz0 zeroR rfl (.tmp 23) (.tmp 24) rfl (ss := [r]) (by exact HH.out) 0 rfl rfl rfl ?c1 ?c2 ?c3 ?c4 ?_)
  case c1 => omega
  case c2 => exact Nat.le_refl _
  case c3 => omega
  case c4 => rw [hz2]; omega
  intro W1 cap hW1 hc1 hc2 hB1 hsz
  have H1 := Lib.hid (show RowR 53 W1 w.heap.size ([r] ++ List.replicate (cap - 1) z0) by simpa using hW1)
  have B1 := Lib.hid hB1
  have C1 := Lib.hid (show 1 ≤ cap ∧ cap ≤ 9223372036854775807 from ⟨hc1, hc2⟩)
  clear hW1 hc1 hc2 hB1 hsz
  go_wp2
  go_ret
  exact ⟨cap, rfl, ⟨_, H1.out, by rw [List.length_replicate]; have := C1.out; simp; omega⟩, C1.out.2, B1.out⟩

theorem grow_rows {rs Z : List Rg} {r : Rg} {i n cap : Nat} {z : Rg} (hin : i < n) (hnc : n + 1 ≤ cap) (hrs : rs.length = n) (hZ : Z = rs.take i ++ List.replicate (n + 1 - i + (cap - (n + 1))) z) :
    ∃ zs, splice (splice Z i [r]) (i + 1) ((rs.drop i).take (n - i)) = (rs.take i ++ r :: rs.drop i) ++ zs ∧ n + 1 + zs.length = cap := by
  have l0 : Z.length = cap := by rw [hZ]; simp; omega
  have e1 : (rs.drop i).take (n - i) = rs.drop i := List.take_of_length_le (by rw [List.length_drop]; omega)
  rw [e1]
  have ml : (rs.drop i).length = n - i := by rw [List.length_drop]; omega
  have l1 : (splice Z i [r]).length = cap := by rw [splice_len _ _ _ (by rw [l0]; simp; omega), l0]
  have l2 : (splice (splice Z i [r]) (i + 1) (rs.drop i)).length = cap := by rw [splice_len _ _ _ (by rw [l1, ml]; omega), l1]
  have t0 : Z.take i = rs.take i := by
    rw [hZ, List.take_append_of_le_length (by rw [List.length_take]; omega), List.take_take, Nat.min_self]
  have t1 : (splice Z i [r]).take (i + 1) = rs.take i ++ [r] := by
    have := splice_take_end (L := Z) (c := [r]) (o := i) (by rw [l0]; omega)
    rw [t0] at this
    exact this
  have t2 : (splice (splice Z i [r]) (i + 1) (rs.drop i)).take (n + 1) = rs.take i ++ r :: rs.drop i := by
    have := splice_take_end (L := splice Z i [r]) (c := rs.drop i) (o := i + 1) (by rw [l1]; omega)
    rw [ml, show i + 1 + (n - i) = n + 1 by omega, t1] at this
    rw [this]
    simp
  refine ⟨(splice (splice Z i [r]) (i + 1) (rs.drop i)).drop (n + 1), ?_, ?_⟩
  · rw [← t2, List.take_append_drop]
  · rw [List.length_drop, l2]; omega

set_option maxRecDepth 100000 in
set_option maxHeartbeats 400000 in
theorem insert_grow {E E' : TypeId} (g h : Nat) (rs : List Rg) (r : Rg) (i n : Nat) (w : World) (hin : i < n) (hrs : rs.length = n) (hg : RowR E w g rs) (hh : RowR E' w h [r]) (ho : ∀ a ∈ rs, oneR a) (hr1 : oneR r) (hm : (n + 1) * 16 ≤ 140737488355328) :
    Calls Try.prog 175 #[.slice (some ⟨g, 0, none⟩) n n, .int .i64 i, .slice (some ⟨h, 0, none⟩) 1 1] w
      fun e w' => Fresh w w' (rs.take i ++ r :: rs.drop i) e := by
  obtain ⟨i0, hi, hz0, hz1, hz2⟩ := info_parts infoR
  have HG := Lib.hid hg
  have HH := Lib.hid hh
  have HN := Lib.hid hrs
  have HO := Lib.hid ho
  have HR1 := Lib.hid hr1
  clear hg hh hrs ho hr1
  go_enter Try.func175, Try.ntmps175
  go_wp2_with (refine wpList_append_zeros encR_len (by decide) Try.underlying49 Try.underlying3 hi hz1 hz0 zeroR rfl (.tmp 34) (.tmp 39) rfl (by exact HG.out) 0 (m := n + 1 - i) rfl rfl ?c0 rfl ?c1 ?c2 ?c3 ?c4 ?c5 ?c6 ?_)
  case c0 => omega
  case c1 => omega
  case c2 => rw [HN.out]; omega
  case c3 => omega
  case c4 => omega
  case c5 => omega
  case c6 => rw [hz2]; omega
  intro W1 cap hW1 hc1 hc2 hB1 hsz
  rw [show i + (n + 1 - i) = n + 1 by omega] at hW1 hc1
  obtain ⟨Z, hZ⟩ : ∃ Z, Z = rs.take i ++ List.replicate (n + 1 - i + (cap - (n + 1))) (z0 : Rg) := ⟨_, rfl⟩
  rw [← hZ] at hW1
  have H1 := Lib.hid hW1
  have HZ := Lib.hid hZ
  have B1 := Lib.hid hB1
  have C1 := Lib.hid (show n + 1 ≤ cap ∧ cap ≤ 9223372036854775807 from ⟨hc1, hc2⟩)
  have L1 := Lib.hid (show Z.length = cap by rw [hZ]; simp [HN.out]; omega)
  have HG1 := Lib.hid (below_keeps hB1 HG.out (heap_lt HG.out))
  have HH1 := Lib.hid (below_keeps hB1 HH.out (heap_lt HH.out))
  have GS := Lib.hid (show g ≠ w.heap.size ∧ h ≠ w.heap.size from ⟨Nat.ne_of_lt (heap_lt HG.out), Nat.ne_of_lt (heap_lt HH.out)⟩)
  have SZ := Lib.hid hsz
  clear hW1 hB1 hsz hZ
  rw [show i + (n + 1 - i) = n + 1 by omega]
  go_wp2_with (refine wpList_copy_at encR_len encR_one Try.underlying49 hi hz1 rfl (.tmp 43) (.tmp 44) 49 rfl (by exact H1.out) (ss := [r]) (by exact HH1.out) i 0 1 rfl rfl rfl rfl ?d1 ?d2 ?d3 ?dp ?_)
  case d1 => omega
  case d2 => rw [L1.out]; omega
  case d3 => exact Nat.le_refl _
  case dp => intro a ha; simp at ha; subst ha; exact HR1.out
  intro W2 hW2 hU2
  have H2 := Lib.hid (show RowR 53 W2 w.heap.size (splice Z i [r]) from hW2)
  have U2 := Lib.hid hU2
  have HG2 := Lib.hid (hU2.keeps HG1.out GS.out.1)
  have L2 := Lib.hid (show (splice Z i [r]).length = cap by rw [splice_len _ _ _ (by rw [L1.out]; simp; omega), L1.out])
  clear hW2 hU2 HG1 HH1 H1
  go_wp2_with fail
  have f1 : IntKind.i64.wrap ((i : Int) + 1) = (i : Int) + 1 := IntWalk.i64_in _ (by omega)
  have f2 : ((i : Int) + 1).toNat = i + 1 := by omega
  have f3 : (0 : Int) ≤ (i : Int) + 1 := by omega
  have f4 : (i : Int) + 1 ≤ (n : Int) + 1 := by omega
  have f5 : ¬ cap = i + 1 := by omega
  have f6 : ¬ n = i := by omega
  have f8 : i ≤ n := by omega
  go_still_tail 8, (by kernel_rfl)
  change wpList _ _ _ _ _ W2.drew
  clear f1 f2 f3 f4 f5 f6 f8
  go_wp2_with (refine wpList_copy_at encR_len encR_one Try.underlying49 hi hz1 rfl (.tmp 50) (.tmp 53) 49 rfl (by exact H2.out) (ss := rs) (by exact HG2.out) (i + 1) i (n - i) rfl rfl rfl rfl ?e1 ?e2 ?e3 ?ep ?_)
  case e2 => rw [L2.out]; omega
  case e3 => rw [HN.out]; omega
  case ep => intro a ha; exact HO.out a (List.mem_of_mem_drop (List.mem_of_mem_take ha))
  intro W3 hW3 hU3
  have H3 := Lib.hid hW3
  have U3 := Lib.hid hU3
  clear hW3 hU3
  go_wp2
  go_ret
  obtain ⟨zs, hzs, hlen⟩ := grow_rows (r := r) hin C1.out.1 HN.out HZ.out
  have hl : (rs.take i ++ r :: rs.drop i).length = n + 1 := by simp [HN.out]; omega
  exact ⟨cap, by rw [hl]; rfl, ⟨zs, by rw [← hzs]; exact H3.out, by rw [hl]; exact hlen⟩, C1.out.2,
    (Upd.onto ((Upd.onto B1.out U2.out (by rw [SZ.out]; omega) (by intro j h1 h2; omega)).drew) U3.out (Nat.le_trans (by rw [SZ.out]; omega) U2.out.size) (by intro j h1 h2; omega))⟩
end Go.Proofs.Ytijnjnncgkhabaa
