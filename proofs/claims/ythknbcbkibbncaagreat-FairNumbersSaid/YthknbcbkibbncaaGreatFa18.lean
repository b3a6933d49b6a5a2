/- DERIVED. Walk of slices.Replace at ranges: one element for at least one, up to the end. -/
import Derived.Deep.DeepMust
import Derived.Lib.Overlaps
import Derived.Test.YthknbcbkibbncaaGreatFa13
import Derived.Test.YthknbcbkibbncaaGreatFa14
import Derived.Test.YthknbcbkibbncaaGreatFa17
set_option linter.all false
namespace Go.Proofs.YthknbcbkibbncaaGreat
open Go.RowKit

theorem replace_rows2 {rs : List Rg} {r : Rg} {i n cap : Nat} {zz : List Rg} (hin : i < n) (hnc : n ≤ cap) (hrs : rs.length = cap)
    (hz : zz = splice rs i [r] ∨ ∃ c, zz = splice (splice rs i [r]) (i + 1) c ∧ i + 1 + c.length ≤ cap) :
    ∃ zs, zz = (rs.take i ++ [r]) ++ zs ∧ i + 1 + zs.length = cap := by
  have l1 : (splice rs i [r]).length = cap := by rw [splice_len _ _ _ (by simp; omega), hrs]
  have t1 : (splice rs i [r]).take (i + 1) = rs.take i ++ [r] := splice_take_end (L := rs) (c := [r]) (o := i) (by omega)
  have t3 : zz.take (i + 1) = rs.take i ++ [r] ∧ zz.length = cap := by
    rcases hz with rfl | ⟨c, rfl, hc⟩
    · exact ⟨t1, l1⟩
    · exact ⟨by rw [splice_take_lt (Nat.le_refl _) (by rw [l1]; omega)]; exact t1, by rw [splice_len _ _ _ (by rw [l1]; exact hc), l1]⟩
  refine ⟨zz.drop (i + 1), ?_, ?_⟩
  · rw [← t3.1, List.take_append_drop]
  · rw [List.length_drop, t3.2]; omega

set_option maxRecDepth 100000 in
set_option maxHeartbeats 400000 in
theorem replace_end {E E' : TypeId} (g h : Nat) (rs : List Rg) (r : Rg) (i n cap : Nat) (w : World) (hin : i < n) (hnc : n ≤ cap) (hrs : rs.length = cap) (hg : RowR E w g rs) (hh : RowR E' w h [r]) (hr1 : oneR r) (_hgh : g ≠ h) (_hm : cap ≤ 9223372036854775807) :
    Calls Tryz.prog 383 #[.slice (some ⟨g, 0, none⟩) n cap, .int .i64 i, .int .i64 n, .slice (some ⟨h, 0, none⟩) 1 1] w
      fun e w' => e = .returned (.slice (some ⟨g, 0, none⟩) (i + 1) cap) ∧ Head E w' g (rs.take i ++ [r]) cap ∧ Upd (fun k => k = g) w w' := by
  obtain ⟨i0, hi, hz0, hz1, hz2⟩ := info_parts infoR
  have HG := Lib.hid hg
  have HH := Lib.hid hh
  have HN := Lib.hid hrs
  have HR1 := Lib.hid hr1
  clear hg hh hrs hr1
  go_enter Tryz.func383, Tryz.ntmps383
  go_wp2_with (refine wpList_append_at encR_len encR_one Tryz.underlying350 hi hz1 rfl (.tmp 32) (.tmp 33) rfl (by exact HG.out) (by exact HH.out) 0 0 rfl rfl rfl rfl ?c1 ?c2 ?c3 ?cp ?_)
  case c1 => omega
  case c2 => rw [HN.out]; omega
  case c3 => exact Nat.le_refl _
  case cp => intro a ha; simp at ha; subst ha; exact HR1.out
  intro W1 hW1 hU1
  have H1 := Lib.hid (show Row encR W1 E g (splice rs i [r]) by simpa using hW1)
  have U1 := Lib.hid hU1
  have L1 := Lib.hid (show (splice rs i [r]).length = cap by rw [splice_len _ _ _ (by rw [HN.out]; simp; omega), HN.out])
  clear hW1 hU1
  by_cases hx : i + 1 < n
  · go_wp2_with (refine wpList_clear_at encR_len encR_one Tryz.underlying350 hi hz0 zeroR z0_one rfl (.tmp 43) rfl (by exact H1.out) (i + 1) (n - (i + 1)) rfl rfl ?e1 ?_)
    case e1 => rw [L1.out]; omega
    intro W3 hW3 hU3
    have H3 := Lib.hid hW3
    have U3 := Lib.hid hU3
    clear hW3 hU3
    go_wp2
    go_ret
    refine ⟨rfl, ?_, U1.out.then U3.out⟩
    obtain ⟨zs, hzs, hlen⟩ := replace_rows2 (zz := splice (splice rs i [r]) (i + 1) (List.replicate (n - (i + 1)) z0)) hin hnc HN.out (.inr ⟨_, rfl, by simp; omega⟩)
    exact ⟨zs, by rw [← hzs]; exact H3.out, by simp only [List.length_append, List.length_take, List.length_cons, List.length_nil, HN.out]; omega⟩
  · go_wp2
    go_ret
    refine ⟨rfl, ?_, U1.out⟩
    obtain ⟨zs, hzs, hlen⟩ := replace_rows2 (zz := splice rs i [r]) hin hnc HN.out (.inl rfl)
    exact ⟨zs, by rw [← hzs]; exact H1.out, by simp only [List.length_append, List.length_take, List.length_cons, List.length_nil, HN.out]; omega⟩
end Go.Proofs.YthknbcbkibbncaaGreat

/- DERIVED. Walk of slices.Insert at ranges: one element. -/
namespace Go.Proofs.YthknbcbkibbncaaGreat
open Go.RowKit

theorem insert_rows {rs : List Rg} {r : Rg} {i n cap : Nat} (hin : i ≤ n) (hnc : n < cap) (hrs : rs.length = cap) :
    ∃ zs, splice (splice rs (i + 1) ((rs.drop i).take (n - i))) i [r] = (rs.take i ++ r :: (rs.take n).drop i) ++ zs ∧ n + 1 + zs.length = cap := by
  have ml : ((rs.drop i).take (n - i)).length = n - i := by rw [List.length_take, List.length_drop]; omega
  have l1 : (splice rs (i + 1) ((rs.drop i).take (n - i))).length = cap := by rw [splice_len _ _ _ (by rw [ml]; omega), hrs]
  have l2 : (splice (splice rs (i + 1) ((rs.drop i).take (n - i))) i [r]).length = cap := by rw [splice_len _ _ _ (by rw [l1]; simp; omega), l1]
  have t1 : (splice rs (i + 1) ((rs.drop i).take (n - i))).take (n + 1) = rs.take (i + 1) ++ (rs.drop i).take (n - i) := by
    have := splice_take_end (L := rs) (c := (rs.drop i).take (n - i)) (o := i + 1) (by omega)
    rw [ml, show i + 1 + (n - i) = n + 1 by omega] at this
    exact this
  have t2 : (splice (splice rs (i + 1) ((rs.drop i).take (n - i))) i [r]).take (n + 1) = rs.take i ++ r :: (rs.take n).drop i := by
    have e : splice (splice rs (i + 1) ((rs.drop i).take (n - i))) i [r] = rs.take i ++ ([r] ++ (splice rs (i + 1) ((rs.drop i).take (n - i))).drop (i + 1)) := by
      have h0 : (splice rs (i + 1) ((rs.drop i).take (n - i))).take i = rs.take i := splice_take_lt (by omega) (by omega)
      unfold splice at h0 ⊢
      rw [h0]
      rfl
    have e2 : (splice rs (i + 1) ((rs.drop i).take (n - i))).drop (i + 1) = (rs.drop i).take (n - i) ++ rs.drop (n + 1) := by
      unfold splice
      rw [List.drop_append, List.drop_of_length_le (by rw [List.length_take]; omega), List.nil_append, show i + 1 - (rs.take (i + 1)).length = 0 by rw [List.length_take]; omega, List.drop_zero, ml, show i + 1 + (n - i) = n + 1 by omega]
    rw [e, e2, List.take_append, List.length_take, Nat.min_eq_left (by omega), List.take_take, Nat.min_eq_right (by omega), show n + 1 - i = (n - i) + 1 by omega]
    simp only [List.cons_append, List.nil_append, List.take_succ_cons]
    rw [List.take_append_of_le_length (by rw [ml]; omega), List.take_take, Nat.min_self, List.drop_take]
  refine ⟨(splice (splice rs (i + 1) ((rs.drop i).take (n - i))) i [r]).drop (n + 1), ?_, ?_⟩
  · rw [← t2, List.take_append_drop]
  · rw [List.length_drop, l2]; omega

theorem sizeR (w : World) : (Go.sizeOf 444).run Tryz.prog w = .ok 2 w := by
  obtain ⟨i0, hi, hz0, hz1, hz2⟩ := info_parts infoR
  simp [Go.sizeOf, typeInfo, hi, hz1]

theorem overlaps_not {E E' : TypeId} (g h : Nat) (rs : List Rg) (r : Rg) (o lb cb : Nat) (w : World) (hrs : 0 < rs.length) (hg : RowR E w g rs) (hh : RowR E' w h [r]) (hgh : g ≠ h) :
    (callFunc 437 #[.slice (some ⟨h, 0, none⟩) 1 1, .slice (some ⟨g, o, none⟩) lb cb]).run Tryz.prog w = .ok (.value (.bool false)) w := by
  rw [run_callFunc_extern Tryz.func437 (by kernel_rfl) (by kernel_rfl) (by kernel_rfl) (e := Extern.SlicesOverlaps.overlaps #[350, 350] #[4]) (by kernel_rfl),
    Lib.run_overlaps_apart w 350 4 444 Tryz.underlying350 2 sizeR ⟨h, 0, none⟩ ⟨g, o, none⟩ 1 1 lb cb (fun e => hgh e.symm) E' E 2 (rs.length * 2)
      (by simp [World.shape?, show w.heap[h]? = _ from hh, flat, encR]) (by simp [World.shape?, show w.heap[g]? = _ from hg, flat_length encR_len]) (by omega) (hh.free 0) (hh.free 2)]
  rfl

set_option maxRecDepth 100000 in
set_option maxHeartbeats 400000 in
theorem insert_shift {E E' : TypeId} (g h : Nat) (rs : List Rg) (r : Rg) (i n cap : Nat) (w : World) (hin : i < n) (hnc : n < cap) (hrs : rs.length = cap) (hg : RowR E w g rs) (hh : RowR E' w h [r]) (ho : ∀ a ∈ rs.take n, oneR a) (hr1 : oneR r) (hgh : g ≠ h) (hm : cap ≤ 9223372036854775807) :
    Calls Tryz.prog 436 #[.slice (some ⟨g, 0, none⟩) n cap, .int .i64 i, .slice (some ⟨h, 0, none⟩) 1 1] w
      fun e w' => e = .returned (.slice (some ⟨g, 0, none⟩) (n + 1) cap) ∧ Head E w' g (rs.take i ++ r :: (rs.take n).drop i) cap ∧ Upd (fun k => k = g) w w' := by
  obtain ⟨i0, hi, hz0, hz1, hz2⟩ := info_parts infoR
  have hov := fun o lb cb => overlaps_not g h rs r o lb cb w (by omega) hg hh hgh
  have HG := Lib.hid hg
  have HH := Lib.hid hh
  have HN := Lib.hid hrs
  have HO := Lib.hid ho
  have HR1 := Lib.hid hr1
  clear hg hh hrs ho hr1
  go_enter Tryz.func436, Tryz.ntmps436
  go_wp2_with (simp only [hov])
  go_wp2_with fail
  clear hov
  have f1 : IntKind.i64.wrap ((i : Int) + 1) = (i : Int) + 1 := IntWalk.i64_in _ (by omega)
  have f2 : ((i : Int) + 1).toNat = i + 1 := by omega
  have f3 : (0 : Int) ≤ (i : Int) + 1 := by omega
  have f4 : (i : Int) + 1 ≤ (n : Int) + 1 := by omega
  have f5 : ¬ cap = i + 1 := by omega
  have f6 : ¬ cap = i := by omega
  have f7 : i ≤ n + 1 := by omega
  have f8 : i ≤ n := by omega
  have f9 : (i : Int) ≤ (n : Int) + 1 := by omega
  go_still_tail 8, (by kernel_rfl)
  change wpList _ _ _ _ _ w.drew
  clear f1 f2 f3 f4 f5 f6 f7 f8 f9
  go_wp2_with (refine wpList_copy_at encR_len encR_one Tryz.underlying350 hi hz1 rfl (.tmp 73) (.tmp 76) 350 rfl (by exact HG.out) (by exact HG.out) (i + 1) i (n - i) rfl rfl rfl rfl ?d1 ?d2 ?d3 ?dp ?_)
  case d1 => omega
  case d2 => rw [HN.out]; omega
  case d3 => rw [HN.out]; omega
  case dp =>
    intro a ha
    refine HO.out a ?_
    rw [← show (rs.take n).drop i = (rs.drop i).take (n - i) from List.drop_take] at ha
    exact List.mem_of_mem_drop ha
  intro W1 hW1 hU1
  have H1 := Lib.hid hW1
  have U1 := Lib.hid hU1
  have HH1 := Lib.hid (hU1.keeps HH.out (fun e => hgh e.symm))
  have L1 := Lib.hid (show (splice rs (i + 1) ((rs.drop i).take (n - i))).length = cap by rw [splice_len _ _ _ (by rw [HN.out, List.length_take, List.length_drop, HN.out]; omega), HN.out])
  clear hW1 hU1
  go_wp2_with (refine wpList_copy_at encR_len encR_one Tryz.underlying350 hi hz1 rfl (.tmp 80) (.tmp 81) 350 rfl (by exact H1.out) (ss := [r]) (by exact HH1.out) i 0 1 rfl rfl rfl rfl ?e1 ?e2 ?e3 ?ep ?_)
  case e1 => omega
  case e2 => rw [L1.out]; omega
  case e3 => exact Nat.le_refl _
  case ep => intro a ha; simp at ha; subst ha; exact HR1.out
  intro W2 hW2 hU2
  have H2 := Lib.hid (show Row encR W2 E g (splice (splice rs (i + 1) ((rs.drop i).take (n - i))) i [r]) by simpa using hW2)
  have U2 := Lib.hid hU2
  clear hW2 hU2
  go_wp2
  go_ret
  refine ⟨rfl, ?_, ((Upd.refl _ w).drew.then U1.out).then U2.out⟩
  obtain ⟨zs, hzs, hlen⟩ := insert_rows (r := r) (Nat.le_of_lt hin) hnc HN.out
  exact ⟨zs, by rw [← hzs]; exact H2.out, by simp only [List.length_append, List.length_take, List.length_drop, List.length_cons, HN.out]; omega⟩

set_option maxRecDepth 100000 in
set_option maxHeartbeats 400000 in
theorem insert_end {E E' : TypeId} (g h : Nat) (rs : List Rg) (r : Rg) (n cap : Nat) (w : World) (hnc : n < cap) (hrs : rs.length = cap) (hg : RowR E w g rs) (hh : RowR E' w h [r]) (hr1 : oneR r) (hm : cap ≤ 9223372036854775807) :
    Calls Tryz.prog 436 #[.slice (some ⟨g, 0, none⟩) n cap, .int .i64 n, .slice (some ⟨h, 0, none⟩) 1 1] w
      fun e w' => e = .returned (.slice (some ⟨g, 0, none⟩) (n + 1) cap) ∧ Head E w' g (rs.take n ++ [r]) cap ∧ Upd (fun k => k = g) w w' := by
  obtain ⟨i0, hi, hz0, hz1, hz2⟩ := info_parts infoR
  have HG := Lib.hid hg
  have HH := Lib.hid hh
  have HN := Lib.hid hrs
  have HR1 := Lib.hid hr1
  clear hg hh hrs hr1
  go_enter Tryz.func436, Tryz.ntmps436
  go_wp2_with (refine wpList_append_at encR_len encR_one Tryz.underlying350 hi hz1 rfl (.tmp 23) (.tmp 24) rfl (by exact HG.out) (ss := [r]) (by exact HH.out) 0 0 rfl rfl rfl rfl ?c1 ?c2 ?c3 ?cp ?_)
  case c1 => omega
  case c2 => rw [HN.out]; omega
  case c3 => exact Nat.le_refl _
  case cp => intro a ha; simp at ha; subst ha; exact HR1.out
  intro W1 hW1 hU1
  have H1 := Lib.hid (show Row encR W1 E g (splice rs n [r]) by simpa using hW1)
  have U1 := Lib.hid hU1
  clear hW1 hU1
  go_wp2
  go_ret
  refine ⟨rfl, ?_, U1.out⟩
  refine ⟨rs.drop (n + 1), ?_, by simp only [List.length_append, List.length_take, List.length_drop, List.length_cons, List.length_nil, HN.out]; omega⟩
  have e : splice rs n [r] = rs.take n ++ [r] ++ rs.drop (n + 1) := by simp [splice]
  rw [← e]
  exact H1.out

/-- A new row g' that begins with xs. -/
def Fresh (w w' : World) (xs : List Rg) (e : Ending) : Prop := ∃ cap, e = .returned (.slice (some ⟨w.heap.size, 0, none⟩) xs.length cap) ∧ Head 444 w' w.heap.size xs cap ∧ cap ≤ 9223372036854775807 ∧ Below w.heap.size w w'

set_option maxRecDepth 100000 in
set_option maxHeartbeats 400000 in
theorem insert_end_grow {E E' : TypeId} (g h : Nat) (rs : List Rg) (r : Rg) (n : Nat) (w : World) (hrs : rs.length = n) (hg : RowR E w g rs) (hh : RowR E' w h [r]) (hm : (n + 1) * 16 ≤ 140737488355328) :
    Calls Tryz.prog 436 #[.slice (some ⟨g, 0, none⟩) n n, .int .i64 n, .slice (some ⟨h, 0, none⟩) 1 1] w
      fun e w' => Fresh w w' (rs ++ [r]) e := by
  obtain ⟨i0, hi, hz0, hz1, hz2⟩ := info_parts infoR
  have HG := Lib.hid hg
  have HH := Lib.hid hh
  have HN := Lib.hid hrs
  clear hg hh hrs
  go_enter Tryz.func436, Tryz.ntmps436
  go_wp2_with (refine wpList_append_fresh encR_len Tryz.underlying350 hi hz1 hz0 zeroR rfl (.tmp 23) (.tmp 24) rfl (by exact HG.out) (ss := [r]) (by exact HH.out) 0 0 rfl rfl rfl rfl ?c1 ?c2 ?c3 ?c4 ?c5 ?c6 ?_)
  case c1 => omega
  case c2 => rw [HN.out]; omega
  case c3 => exact Nat.le_refl _
  case c4 => omega
  case c5 => omega
  case c6 => rw [hz2]; omega
  intro W1 cap hW1 hc1 hc2 hB1 hsz
  have H1 := Lib.hid (show RowR 444 W1 w.heap.size ((rs ++ [r]) ++ List.replicate (cap - (n + 1)) z0) by
    have e : rs.take n = rs := List.take_of_length_le (by rw [HN.out]; omega)
    simpa [e] using hW1)
  have B1 := Lib.hid hB1
  have C1 := Lib.hid (show n + 1 ≤ cap ∧ cap ≤ 9223372036854775807 from ⟨hc1, hc2⟩)
  clear hW1 hc1 hc2 hB1 hsz
  go_wp2
  go_ret
  have hl : (rs ++ [r]).length = n + 1 := by simp [HN.out]
  exact ⟨cap, by rw [hl]; rfl, ⟨_, H1.out, by rw [hl, List.length_replicate]; have := C1.out; omega⟩, C1.out.2, B1.out⟩

set_option maxRecDepth 100000 in
set_option maxHeartbeats 400000 in
theorem insert_nil {E' : TypeId} (h : Nat) (r : Rg) (w : World) (hh : RowR E' w h [r]) :
    Calls Tryz.prog 436 #[.slice none 0 0, .int .i64 0, .slice (some ⟨h, 0, none⟩) 1 1] w
      fun e w' => Fresh w w' [r] e := by
  obtain ⟨i0, hi, hz0, hz1, hz2⟩ := info_parts infoR
  have HH := Lib.hid hh
  clear hh
  go_enter Tryz.func436, Tryz.ntmps436
  go_wp2_with (refine wpList_append_nil encR_len Tryz.underlying350 hi hz1 hz0 zeroR rfl (.tmp 23) (.tmp 24) rfl (ss := [r]) (by exact HH.out) 0 rfl rfl rfl ?c1 ?c2 ?c3 ?c4 ?_)
  case c1 => omega
  case c2 => exact Nat.le_refl _
  case c3 => omega
  case c4 => rw [hz2]; omega
  intro W1 cap hW1 hc1 hc2 hB1 hsz
  have H1 := Lib.hid (show RowR 444 W1 w.heap.size ([r] ++ List.replicate (cap - 1) z0) by simpa using hW1)
  have B1 := Lib.hid hB1
  have C1 := Lib.hid (show 1 ≤ cap ∧ cap ≤ 9223372036854775807 from ⟨hc1, hc2⟩)
  clear hW1 hc1 hc2 hB1 hsz
  go_wp2
  go_ret
  exact ⟨cap, rfl, ⟨_, H1.out, by rw [List.length_replicate]; have := C1.out; simp; omega⟩, C1.out.2, B1.out⟩

theorem grow_rows {rs Z : List Rg} {r : Rg} {i n cap : Nat} {z : Rg} (hin : i < n) (hnc : n + 1 ≤ cap) (hrs : rs.length = n) (hZ : Z = rs.take i ++ List.replicate (n + 1 - i + (cap - (n + 1))) z) :
    ∃ zs, splice (splice Z i [r]) (i + 1) ((rs.drop i).take (n - i)) = (rs.take i ++ r :: rs.drop i) ++ zs ∧ n + 1 + zs.length = cap := by
  have l0 : Z.length = cap := by rw [hZ]; simp; omega
  have e1 : (rs.drop i).take (n - i) = rs.drop i := List.take_of_length_le (by rw [List.length_drop]; omega)
  rw [e1]
  have ml : (rs.drop i).length = n - i := by rw [List.length_drop]; omega
  have l1 : (splice Z i [r]).length = cap := by rw [splice_len _ _ _ (by rw [l0]; simp; omega), l0]
  have l2 : (splice (splice Z i [r]) (i + 1) (rs.drop i)).length = cap := by rw [splice_len _ _ _ (by rw [l1, ml]; omega), l1]
  have t0 : Z.take i = rs.take i := by
    rw [hZ, List.take_append_of_le_length (by rw [List.length_take]; omega), List.take_take, Nat.min_self]
  have t1 : (splice Z i [r]).take (i + 1) = rs.take i ++ [r] := by
    have := splice_take_end (L := Z) (c := [r]) (o := i) (by rw [l0]; omega)
    rw [t0] at this
    exact this
  have t2 : (splice (splice Z i [r]) (i + 1) (rs.drop i)).take (n + 1) = rs.take i ++ r :: rs.drop i := by
    have := splice_take_end (L := splice Z i [r]) (c := rs.drop i) (o := i + 1) (by rw [l1]; omega)
    rw [ml, show i + 1 + (n - i) = n + 1 by omega, t1] at this
    rw [this]
    simp
  refine ⟨(splice (splice Z i [r]) (i + 1) (rs.drop i)).drop (n + 1), ?_, ?_⟩
  · rw [← t2, List.take_append_drop]
  · rw [List.length_drop, l2]; omega

set_option maxRecDepth 100000 in
set_option maxHeartbeats 400000 in
theorem insert_grow {E E' : TypeId} (g h : Nat) (rs : List Rg) (r : Rg) (i n : Nat) (w : World) (hin : i < n) (hrs : rs.length = n) (hg : RowR E w g rs) (hh : RowR E' w h [r]) (ho : ∀ a ∈ rs, oneR a) (hr1 : oneR r) (hm : (n + 1) * 16 ≤ 140737488355328) :
    Calls Tryz.prog 436 #[.slice (some ⟨g, 0, none⟩) n n, .int .i64 i, .slice (some ⟨h, 0, none⟩) 1 1] w
      fun e w' => Fresh w w' (rs.take i ++ r :: rs.drop i) e := by
  obtain ⟨i0, hi, hz0, hz1, hz2⟩ := info_parts infoR
  have HG := Lib.hid hg
  have HH := Lib.hid hh
  have HN := Lib.hid hrs
  have HO := Lib.hid ho
  have HR1 := Lib.hid hr1
  clear hg hh hrs ho hr1
  go_enter Tryz.func436, Tryz.ntmps436
  go_wp2_with (refine wpList_append_zeros encR_len (by decide) Tryz.underlying350 Tryz.underlying3 hi hz1 hz0 zeroR rfl (.tmp 34) (.tmp 39) rfl (by exact HG.out) 0 (m := n + 1 - i) rfl rfl ?c0 rfl ?c1 ?c2 ?c3 ?c4 ?c5 ?c6 ?_)
  case c0 => omega
  case c1 => omega
  case c2 => rw [HN.out]; omega
  case c3 => omega
  case c4 => omega
  case c5 => omega
  case c6 => rw [hz2]; omega
  intro W1 cap hW1 hc1 hc2 hB1 hsz
  rw [show i + (n + 1 - i) = n + 1 by omega] at hW1 hc1
  obtain ⟨Z, hZ⟩ : ∃ Z, Z = rs.take i ++ List.replicate (n + 1 - i + (cap - (n + 1))) (z0 : Rg) := ⟨_, rfl⟩
  rw [← hZ] at hW1
  have H1 := Lib.hid hW1
  have HZ := Lib.hid hZ
  have B1 := Lib.hid hB1
  have C1 := Lib.hid (show n + 1 ≤ cap ∧ cap ≤ 9223372036854775807 from ⟨hc1, hc2⟩)
  have L1 := Lib.hid (show Z.length = cap by rw [hZ]; simp [HN.out]; omega)
  have HG1 := Lib.hid (below_keeps hB1 HG.out (heap_lt HG.out))
  have HH1 := Lib.hid (below_keeps hB1 HH.out (heap_lt HH.out))
  have GS := Lib.hid (show g ≠ w.heap.size ∧ h ≠ w.heap.size from ⟨Nat.ne_of_lt (heap_lt HG.out), Nat.ne_of_lt (heap_lt HH.out)⟩)
  have SZ := Lib.hid hsz
  clear hW1 hB1 hsz hZ
  rw [show i + (n + 1 - i) = n + 1 by omega]
  go_wp2_with (refine wpList_copy_at encR_len encR_one Tryz.underlying350 hi hz1 rfl (.tmp 43) (.tmp 44) 350 rfl (by exact H1.out) (ss := [r]) (by exact HH1.out) i 0 1 rfl rfl rfl rfl ?d1 ?d2 ?d3 ?dp ?_)
  case d1 => omega
  case d2 => rw [L1.out]; omega
  case d3 => exact Nat.le_refl _
  case dp => intro a ha; simp at ha; subst ha; exact HR1.out
  intro W2 hW2 hU2
  have H2 := Lib.hid (show RowR 444 W2 w.heap.size (splice Z i [r]) from hW2)
  have U2 := Lib.hid hU2
  have HG2 := Lib.hid (hU2.keeps HG1.out GS.out.1)
  have L2 := Lib.hid (show (splice Z i [r]).length = cap by rw [splice_len _ _ _ (by rw [L1.out]; simp; omega), L1.out])
  clear hW2 hU2 HG1 HH1 H1
  go_wp2_with fail
  have f1 : IntKind.i64.wrap ((i : Int) + 1) = (i : Int) + 1 := IntWalk.i64_in _ (by omega)
  have f2 : ((i : Int) + 1).toNat = i + 1 := by omega
  have f3 : (0 : Int) ≤ (i : Int) + 1 := by omega
  have f4 : (i : Int) + 1 ≤ (n : Int) + 1 := by omega
  have f5 : ¬ cap = i + 1 := by omega
  have f6 : ¬ n = i := by omega
  have f8 : i ≤ n := by omega
  go_still_tail 8, (by kernel_rfl)
  change wpList _ _ _ _ _ W2.drew
  clear f1 f2 f3 f4 f5 f6 f8
  go_wp2_with (refine wpList_copy_at encR_len encR_one Tryz.underlying350 hi hz1 rfl (.tmp 50) (.tmp 53) 350 rfl (by exact H2.out) (ss := rs) (by exact HG2.out) (i + 1) i (n - i) rfl rfl rfl rfl ?e1 ?e2 ?e3 ?ep ?_)
  case e2 => rw [L2.out]; omega
  case e3 => rw [HN.out]; omega
  case ep => intro a ha; exact HO.out a (List.mem_of_mem_drop (List.mem_of_mem_take ha))
  intro W3 hW3 hU3
  have H3 := Lib.hid hW3
  have U3 := Lib.hid hU3
  clear hW3 hU3
  go_wp2
  go_ret
  obtain ⟨zs, hzs, hlen⟩ := grow_rows (r := r) hin C1.out.1 HN.out HZ.out
  have hl : (rs.take i ++ r :: rs.drop i).length = n + 1 := by simp [HN.out]; omega
  exact ⟨cap, by rw [hl]; rfl, ⟨zs, by rw [← hzs]; exact H3.out, by rw [hl]; exact hlen⟩, C1.out.2,
    (Upd.onto ((Upd.onto B1.out U2.out (by rw [SZ.out]; omega) (by intro j h1 h2; omega)).drew) U3.out (Nat.le_trans (by rw [SZ.out]; omega) U2.out.size) (by intro j h1 h2; omega))⟩
end Go.Proofs.YthknbcbkibbncaaGreat

/- DERIVED. slices.Insert and slices.Replace at ranges: one element put in the place of some, or none. -/
namespace Go.Proofs.YthknbcbkibbncaaGreat
open Go.RowKit

/-- A slice value that is nil, or lies at the head of the row og, and reads as xs. -/
def Sl (E : TypeId) (w : World) (v : Value) (og : Option Nat) (xs : List Rg) : Prop :=
  (v = .slice none 0 0 ∧ xs = [] ∧ og = none) ∨
  ∃ g ys, og = some g ∧ v = .slice (some ⟨g, 0, none⟩) xs.length (xs.length + ys.length) ∧ RowR E w g (xs ++ ys) ∧ xs.length + ys.length ≤ 9223372036854775807
theorem Head.sl {E : TypeId} {w : World} {g cap n : Nat} {xs : List Rg} (h : Head E w g xs cap) (hc : cap ≤ 9223372036854775807) (hn : n = xs.length) : Sl E w (.slice (some ⟨g, 0, none⟩) n cap) (some g) xs := by
  obtain ⟨ys, h1, h2⟩ := h
  subst hn
  exact .inr ⟨g, ys, rfl, by rw [h2], h1, by omega⟩

/-- What a call that turns one slice leaves: a slice that reads as ys, in the old row or a new one. -/
def Repl (w : World) (og : Option Nat) (ys : List Rg) (e : Ending) (w' : World) : Prop :=
  ∃ v' og' E, e = .returned v' ∧ Sl E w' v' og' ys ∧ (og' = og ∨ ∃ g, og' = some g ∧ w.heap.size ≤ g) ∧ Upd (fun j => og = some j) w w'

theorem Repl.ofHead {w w' : World} {g n cap : Nat} {ys : List Rg} {e : Ending} (he : e = .returned (.slice (some ⟨g, 0, none⟩) n cap)) (hn : n = ys.length) {E : TypeId} (hh : Head E w' g ys cap) (hc : cap ≤ 9223372036854775807) (hu : Upd (fun k => k = g) w w') :
    Repl w (some g) ys e w' := ⟨_, some g, E, he, hh.sl hc hn, .inl rfl, hu.mono (fun _ _ x => by rw [x])⟩
theorem Repl.ofFresh {w w' : World} {og : Option Nat} {ys : List Rg} {e : Ending} (h : Fresh w w' ys e) : Repl w og ys e w' := by
  obtain ⟨cap, he, hh, hc, hb⟩ := h
  exact ⟨_, some w.heap.size, 444, he, hh.sl hc rfl, .inr ⟨_, rfl, Nat.le_refl _⟩, (Upd.below hb).mono (fun i hi h => by omega)⟩

theorem insert_any {E E' : TypeId} (v : Value) (og : Option Nat) (xs : List Rg) (i h : Nat) (r : Rg) (w : World) (hs : Sl E w v og xs) (ho : ∀ a ∈ xs, oneR a) (hr1 : oneR r) (hi : i ≤ xs.length) (hh : RowR E' w h [r]) (hne : og ≠ some h) (hm : (xs.length + 1) * 16 ≤ 140737488355328) :
    Calls Tryz.prog 436 #[v, .int .i64 i, .slice (some ⟨h, 0, none⟩) 1 1] w (Repl w og (xs.take i ++ r :: xs.drop i)) := by
  rcases hs with ⟨rfl, rfl, rfl⟩ | ⟨g, ys, rfl, rfl, hg, hl⟩
  · obtain rfl : i = 0 := by simpa using hi
    exact (insert_nil h r w hh).mono fun e w' hf => Repl.ofFresh hf
  · have hgh : g ≠ h := fun e => hne (by rw [e])
    have t1 : (xs ++ ys).take i = xs.take i := List.take_append_of_le_length hi
    have t2 : (xs ++ ys).take xs.length = xs := by rw [List.take_append_of_le_length (Nat.le_refl _), List.take_length]
    have hlen : xs.length + 1 = (xs.take i ++ r :: xs.drop i).length := by simp; omega
    by_cases hroom : 0 < ys.length
    · by_cases hin : i < xs.length
      · refine (insert_shift g h (xs ++ ys) r i xs.length (xs.length + ys.length) w hin (by omega) (by simp) hg hh (by simpa using ho) hr1 hgh hl).mono fun e w' ⟨he, hd, hu⟩ => ?_
        rw [t1, t2] at hd
        exact Repl.ofHead he hlen hd hl hu
      · obtain rfl : i = xs.length := by omega
        refine (insert_end g h (xs ++ ys) r xs.length (xs.length + ys.length) w (by omega) (by simp) hg hh hr1 hl).mono fun e w' ⟨he, hd, hu⟩ => ?_
        rw [t2] at hd
        have e1 : xs.take xs.length ++ r :: xs.drop xs.length = xs ++ [r] := by simp
        rw [e1]
        exact Repl.ofHead he (by simp) hd hl hu
    · obtain rfl : ys = [] := List.eq_nil_of_length_eq_zero (by omega)
      simp only [List.append_nil, List.length_nil, Nat.add_zero] at hg ⊢
      by_cases hin : i < xs.length
      · exact (insert_grow g h xs r i xs.length w hin rfl hg hh ho hr1 hm).mono fun e w' hf => Repl.ofFresh hf
      · obtain rfl : i = xs.length := by omega
        have e1 : xs.take xs.length ++ r :: xs.drop xs.length = xs ++ [r] := by simp
        rw [e1]
        exact (insert_end_grow g h xs r xs.length w rfl hg hh hm).mono fun e w' hf => Repl.ofFresh hf

set_option maxRecDepth 100000 in
set_option maxHeartbeats 400000 in
theorem replace_insert_nil (h : Nat) (w : World) (og : Option Nat) (ys : List Rg)
    (hi : Calls Tryz.prog 436 #[.slice none 0 0, .int .i64 0, .slice (some ⟨h, 0, none⟩) 1 1] w (Repl w og ys)) :
    Calls Tryz.prog 383 #[.slice none 0 0, .int .i64 0, .int .i64 0, .slice (some ⟨h, 0, none⟩) 1 1] w (Repl w og ys) := by
  have HI := Lib.hid hi
  clear hi
  go_enter Tryz.func383, Tryz.ntmps383
  go_wp2_with fail
  refine HI.out.mono ?_
  rintro e w' ⟨v, og', E0, rfl, h1, h2, h3⟩
  have HH := Lib.hid (show Repl w og ys (.returned v) w' from ⟨v, og', E0, rfl, h1, h2, h3⟩)
  clear h1 h2 h3 HI
  go_wp2
  go_ret
  exact HH.out

set_option maxRecDepth 100000 in
set_option maxHeartbeats 400000 in
theorem replace_insert (g n cap : Nat) (i h : Nat) (w : World) (og : Option Nat) (ys : List Rg) (hin : i ≤ n) (hnc : n ≤ cap) (_hcap : cap ≤ 9223372036854775807)
    (hi : Calls Tryz.prog 436 #[.slice (some ⟨g, 0, none⟩) n cap, .int .i64 i, .slice (some ⟨h, 0, none⟩) 1 1] w (Repl w og ys)) :
    Calls Tryz.prog 383 #[.slice (some ⟨g, 0, none⟩) n cap, .int .i64 i, .int .i64 i, .slice (some ⟨h, 0, none⟩) 1 1] w (Repl w og ys) := by
  by_cases hci : cap = i
  · subst hci
    have HI := Lib.hid hi
    clear hi
    go_enter Tryz.func383, Tryz.ntmps383
    go_wp2_with fail
    refine HI.out.mono ?_
    rintro e w' ⟨v, og', E0, rfl, h1, h2, h3⟩
    have HH := Lib.hid (show Repl w og ys (.returned v) w' from ⟨v, og', E0, rfl, h1, h2, h3⟩)
    clear h1 h2 h3 HI
    go_wp2
    go_ret
    exact HH.out
  · have HI := Lib.hid hi
    clear hi
    go_enter Tryz.func383, Tryz.ntmps383
    go_wp2_with fail
    refine HI.out.mono ?_
    rintro e w' ⟨v, og', E0, rfl, h1, h2, h3⟩
    have HH := Lib.hid (show Repl w og ys (.returned v) w' from ⟨v, og', E0, rfl, h1, h2, h3⟩)
    clear h1 h2 h3 HI
    go_wp2
    go_ret
    exact HH.out

theorem replace_any {E E' : TypeId} (v : Value) (og : Option Nat) (xs : List Rg) (i k h : Nat) (r : Rg) (w : World) (hs : Sl E w v og xs) (ho : ∀ a ∈ xs, oneR a) (hr1 : oneR r) (hi : i ≤ k) (hk : k ≤ xs.length) (hh : RowR E' w h [r]) (hne : og ≠ some h) (hm : (xs.length + 1) * 16 ≤ 140737488355328) :
    Calls Tryz.prog 383 #[v, .int .i64 i, .int .i64 k, .slice (some ⟨h, 0, none⟩) 1 1] w (Repl w og (xs.take i ++ r :: xs.drop k)) := by
  by_cases hik : i = k
  · subst hik
    have h1 := insert_any v og xs i h r w hs ho hr1 hk hh hne hm
    rcases hs with ⟨rfl, rfl, rfl⟩ | ⟨g, ys, rfl, rfl, hg, hl⟩
    · obtain rfl : i = 0 := by simpa using hk
      exact replace_insert_nil h w _ _ h1
    · exact replace_insert _ _ _ i h w _ _ hk (by omega) hl h1
  · rcases hs with ⟨rfl, rfl, rfl⟩ | ⟨g, ys, rfl, rfl, hg, hl⟩
    · simp at hk
      omega
    · have hgh : g ≠ h := fun e => hne (by rw [e])
      have t1 : (xs ++ ys).take i = xs.take i := List.take_append_of_le_length (by omega)
      have t2 : (xs ++ ys).take xs.length = xs := by rw [List.take_append_of_le_length (Nat.le_refl _), List.take_length]
      by_cases hkn : k < xs.length
      · refine (replace_mid g h (xs ++ ys) r i k xs.length (xs.length + ys.length) w (by omega) hkn (by omega) (by simp) hg hh (by simpa using ho) hr1 hgh hl).mono fun e w' ⟨he, hd, hu⟩ => ?_
        rw [t1, t2] at hd
        exact Repl.ofHead he (by simp; omega) hd hl hu
      · obtain rfl : k = xs.length := by omega
        refine (replace_end g h (xs ++ ys) r i xs.length (xs.length + ys.length) w (by omega) (by omega) (by simp) hg hh hr1 hgh hl).mono fun e w' ⟨he, hd, hu⟩ => ?_
        rw [t1] at hd
        have e1 : xs.take i ++ r :: xs.drop xs.length = xs.take i ++ [r] := by simp
        rw [e1]
        exact Repl.ofHead he (by simp; omega) hd hl hu
end Go.Proofs.YthknbcbkibbncaaGreat

/- DERIVED. slices.Replace of rows of two cells, by one element: what it does to our memory. -/
set_option linter.unusedVariables false
namespace Go.Proofs.YthknbcbkibbncaaGreat
namespace Ev
noncomputable def replB (vid : Id) (i j : Nat) (v : List AV) (s : AV) : M AV := match s with
  | .s0 => M.ifB (Nat.beq i 0 && Nat.beq j 0) (M.bind (M.new (zc false true false) v) fun id => M.pure (.so id 0 1 1 2))
  | .so id off n q w => M.ifB (((Nat.beq off 0 && Nat.ble 1 q) && Nat.beq w 2) && (Nat.ble i j && (Nat.ble j n && (Nat.ble n lim && !Nat.beq id.num vid.num)))) (M.bind (M.shared id) fun z => M.ifB (!z.s && z.b)
      (M.bind (M.rd id 0 (n * 2)) fun old => M.bind (M.over id 0 (i * 2) (v ++ old.drop (j * 2))) fun id =>
        M.pure (.so id 0 (i + 1 + (n - j)) (i + 1 + (n - j)) 2)))
  | _ => M.no
noncomputable def replV (s i j : AV) (v : AV) : M AV := match v with
  | .sl vid off n c => M.ifB (Nat.beq off 0 && (Nat.beq n 1 && Nat.beq c 1)) (M.ofO (nat64 i) fun i => M.ofO (nat64 j) fun j => M.bind (M.ends vid) fun zv => M.ifB ((!zv.1.s && Nat.beq zv.2 2) && (zv.1.b && zv.1.t)) (M.bind (M.rd vid 0 2) fun v => replB vid i j v s))
  | _ => M.no
noncomputable def replF (_k : Nat) (l : List AV) : M AV := match l with
  | [s, i, j, v] => replV s i j v
  | _ => M.no

theorem Loc.replB (vid : Id) (i j : Nat) (v : List AV) (s : AV) : Loc (replB vid i j v s) := by
  cases s <;> first
    | exact Loc.no
    | exact Loc.ifB (Loc.bind (Loc.new _ _) fun _ => Loc.pure _)
    | exact Loc.ifB (Loc.bind (Loc.shared _) fun _ => Loc.ifB (Loc.bind (Loc.rd _ _ _) fun _ => Loc.bind (Loc.over _ _ _ _) fun _ => Loc.pure _))
theorem Loc.replV (s i j v : AV) : Loc (replV s i j v) := by
  cases v <;> first
    | exact Loc.no
    | exact Loc.ifB (Loc.ofO fun _ => Loc.ofO fun _ => Loc.bind (Loc.ends _) fun _ => Loc.ifB (Loc.bind (Loc.rd _ _ _) fun _ => Loc.replB _ _ _ _ _))
theorem Loc.replF (k : Nat) (l : List AV) : Loc (replF k l) := by
  match l with
  | [] => exact Loc.no
  | [_] => exact Loc.no
  | [_, _] => exact Loc.no
  | [_, _, _] => exact Loc.no
  | [s, i, j, v] => exact Loc.replV s i j v
  | _ :: _ :: _ :: _ :: _ :: _ => exact Loc.no
namespace Kq
theorem Ref.replB (vid : Id) (i j : Nat) (v : List AV) (s : AV) : Ref Eq (Kq.replB vid i j v s) (Ev.replB vid i j v s) := by
  cases s <;> first
    | exact Ref.no
    | exact Ref.ifB (Ref.eqv (Ref.new _ _) fun _ => Ref.ret _)
    | exact Ref.ifB (Ref.eqv (Ref.shared _) fun _ => Ref.ifB (Ref.eqv (Ref.rd _ _ _) fun _ => Ref.eqv (Ref.over _ _ _ _) fun _ => Ref.ret _))
theorem Ref.replV (s i j v : AV) : Ref Eq (Kq.replV s i j v) (Ev.replV s i j v) := by
  cases v <;> first
    | exact Ref.no
    | exact Ref.ifB (Ref.ofO fun _ _ => Ref.ofO fun _ _ => Ref.eqv (Ref.ends _) fun _ => Ref.ifB (Ref.eqv (Ref.rd _ _ _) fun _ => Ref.replB _ _ _ _ _))
theorem Ref.replQ (k : Nat) (l : List AV) : Ref Eq (Kq.replQ k l) (Ev.replF k l) := by
  match l with
  | [] => exact Ref.no
  | [_] => exact Ref.no
  | [_, _] => exact Ref.no
  | [_, _, _] => exact Ref.no
  | [s, i, j, v] => exact Ref.replV s i j v
  | _ :: _ :: _ :: _ :: _ :: _ => exact Ref.no
end Kq
end Ev
end Go.Proofs.YthknbcbkibbncaaGreat

/- DERIVED. A call that leaves a block somewhere, in an old one's place or new: our memory after it. -/
set_option linter.unusedVariables false
namespace Go.Proofs.YthknbcbkibbncaaGreat
namespace Ev
open Go.RowKit

theorem HR.moved {β : Id → CA} {D : Id → Prop} {B : Nat} {h : Heap} {w w' : World} (hr : HR β D B h w) {id nid : Id} (hd : ¬ D nid) {a : CA} {k : Blk}
    (hkm : k.z.m = none) (hblk : ∃ c el fz, w'.heap[a.blk]? = some (.cells c el fz) ∧ c.size = a.lim ∧ fzok k.z.s fz c.size ∧ Cells β D c a.base k.c ∧ Zok k.z a k.c.length) (hB : B ≤ a.blk)
    (hoth : ∀ j kk, h j = some kk → j ≠ id → (β j).blk ≠ a.blk ∧ w'.heap[(β j).blk]? = w.heap[(β j).blk]?) (hsz : w.heap.size ≤ w'.heap.size) :
    HR (named β nid a) (fun j => D j ∨ j = nid) B (Heap.put (Heap.put h id none) nid (some k)) w' := by
  have hx := named_ext β (D := D) (id := nid) a hd
  have hold : ∀ j, D j → named β nid a j = β j := fun j hj => (hx.keep j hj).2
  have there : ∀ j kk, Heap.put (Heap.put h id none) nid (some k) j = some kk → (j = nid ∧ kk = k) ∨ (j ≠ id ∧ h j = some kk) := fun j kk hk => by
    by_cases e : j.num = nid.num
    · simp only [Heap.put, if_pos e] at hk
      cases hk
      exact .inl ⟨Id.num_inj e, rfl⟩
    · simp only [Heap.put, if_neg e] at hk
      by_cases e' : j.num = id.num
      · rw [if_pos e'] at hk; cases hk
      · rw [if_neg e'] at hk
        exact .inr ⟨fun x => e' (by rw [x]), hk⟩
  refine ⟨fun j kk hk => ?_, fun i j hi hj e => ?_, fun j hj => ?_, Nat.le_trans hr.size hsz⟩
  · rcases there j kk hk with ⟨rfl, rfl⟩ | ⟨hn, hj⟩
    · obtain ⟨c, el, fz, h1, h2, h3, h4, h5⟩ := hblk
      refine ⟨.inr rfl, ?_⟩
      unfold LiveB
      rw [hkm]
      refine ⟨c, el, fz, ?_, ?_, h3, ?_, ?_⟩
      · rw [named_same]; exact h1
      · rw [named_same]; exact h2
      · rw [named_same]; exact Cells.mono hx h4
      · rw [named_same]; exact h5
    · obtain ⟨h1, h2⟩ := hr.live j kk hj
      refine ⟨.inl h1, ?_⟩
      rw [hold j h1]
      exact h2.keep hx (hoth j kk hj hn).2
  · have ex : ∀ i, Heap.put (Heap.put h id none) nid (some k) i ≠ none → i = nid ∨ ∃ kk, i ≠ id ∧ h i = some kk := fun i hi => by
      cases hq : Heap.put (Heap.put h id none) nid (some k) i with
      | none => exact absurd hq hi
      | some kk =>
        rcases there i kk hq with ⟨x, _⟩ | ⟨x, y⟩
        · exact .inl x
        · exact .inr ⟨kk, x, y⟩
    rcases ex i hi with rfl | ⟨ki, ni, qi⟩
    · rcases ex j hj with rfl | ⟨kj, nj, qj⟩
      · rfl
      · rw [named_same, hold j (hr.live j kj qj).1] at e
        exact absurd e.symm (hoth j kj qj nj).1
    · rcases ex j hj with rfl | ⟨kj, nj, qj⟩
      · rw [named_same, hold i (hr.live i ki qi).1] at e
        exact absurd e (hoth i ki qi ni).1
      · rw [hold i (hr.live i ki qi).1, hold j (hr.live j kj qj).1] at e
        exact hr.inj i j (by rw [qi]; simp) (by rw [qj]; simp) e
  · rcases hj with hj | rfl
    · rw [hold j hj]; exact hr.old j hj
    · rw [named_same]; exact hB
end Ev
end Go.Proofs.YthknbcbkibbncaaGreat

/- DERIVED. Rows of pairs out of cells: for slices.Replace taken whole. -/
namespace Go.Proofs.YthknbcbkibbncaaGreat
namespace Ev
open Go.RowKit
theorem pairs_of : ∀ (m : Nat) (l : List Value), l.length = m * 2 → ∃ rs : List Rg, flat encR rs = l ∧ rs.length = m
  | 0, [], _ => ⟨[], rfl, rfl⟩
  | 0, _ :: _, h => by simp at h
  | m + 1, [], h => by simp at h
  | m + 1, [_], h => by simp at h; omega
  | m + 1, a :: b :: l, h => by
    obtain ⟨rs, h1, h2⟩ := pairs_of m l (by simp at h; omega)
    exact ⟨(a, b) :: rs, by rw [flat_cons, h1]; rfl, by simp [h2]⟩
/-- A block that is not frozen, begins at cell 0 and holds an even number of cells is a row of pairs. -/
theorem row_of {β : Id → CA} {D : Id → Prop} {B : Nat} {h : Heap} {w : World} (hr : HR β D B h w) {id : Id} {k : Blk} (hk : h id = some k) (hm0 : k.z.m = none) (hs : k.z.s = false) (hb : k.z.b = true) {m : Nat} (hm : (β id).lim = m * 2) :
    ∃ (rs : List Rg) (E : TypeId), RowR E w (β id).blk rs ∧ rs.length = m ∧ (β id).base = 0 ∧ Cells β D (flat encR rs).toArray 0 k.c := by
  obtain ⟨hd, c, el, fz, h1, h2, h3, h4, h5⟩ := hr.cells hk hm0
  rw [hs] at h3
  simp only [fzok] at h3
  subst h3
  have h0 := h5.b hb
  obtain ⟨rs, e1, e2⟩ := pairs_of m c.toList (by rw [← hm, ← h2]; simp)
  have e3 : (flat encR rs).toArray = c := by rw [e1]
  refine ⟨rs, el, ?_, e2, h0, ?_⟩
  · show w.heap[(β id).blk]? = _
    rw [e3]; exact h1
  · rw [e3, ← h0]; exact h4
/-- The first cells of a row of pairs, as ours. -/
theorem take_vrs {β : Id → CA} {D : Id → Prop} {rs : List Rg} {l : List AV} {n : Nat} (hc : Cells β D (flat encR rs).toArray 0 l) (hn : n * 2 ≤ l.length) : VRs β D (l.take (n * 2)) (flat encR (rs.take n)) := by
  have hf := hc.fit
  rw [← flat_take encR_len]
  refine VRs.of ?_ fun j x V h1 h2 => ?_
  · rw [List.length_take, List.length_take]
    simp at hf
    omega
  · rw [List.getElem?_take] at h1 h2
    split at h1
    · rename_i hj
      rw [if_pos hj] at h2
      obtain ⟨U, hU, hv⟩ := hc.get j x h1
      simp at hU
      rw [hU] at h2
      cases h2
      exact hv
    · cases h1
theorem take_one {β : Id → CA} {D : Id → Prop} {rs : List Rg} {l : List AV} {n : Nat} (hc : Cells β D (flat encR rs).toArray 0 l) (hn : n * 2 ≤ l.length) : ∀ a ∈ rs.take n, Go.Proofs.YthknbcbkibbncaaGreat.oneR a := by
  intro a ha
  have hv := take_vrs hc hn
  have h1 : ∀ V ∈ flat encR (rs.take n), V.oneCell' = true := fun V hV => by
    obtain ⟨j, hj⟩ := List.getElem?_of_mem hV
    obtain ⟨x, hx, hr⟩ := hv.back j V hj
    exact hr.one (hc.one x (List.mem_of_mem_take (List.mem_of_getElem? hx)))
  exact ⟨h1 a.1 (List.mem_flatMap.2 ⟨a, ha, by simp [encR]⟩), h1 a.2 (List.mem_flatMap.2 ⟨a, ha, by simp [encR]⟩)⟩
end Ev
end Go.Proofs.YthknbcbkibbncaaGreat

/- DERIVED. slices.Replace taken whole does what the evaluator says. -/
set_option linter.unusedVariables false
namespace Go.Proofs.YthknbcbkibbncaaGreat
namespace Ev
open Go.RowKit
theorem nat64_vr {β : Id → CA} {D : Id → Prop} {x : AV} {n : Nat} {X : Value} (h : nat64 x = some n) (hx : VR β D x X) : X = .int .i64 n := by
  unfold nat64 at h
  split at h
  · cases h
    simp only [VR] at hx
    exact hx
  · cases h
theorem rd_how {id : Id} {lo m : Nat} {l : List AV} {s s' : S} (h : M.rd id lo m s = some (l, s')) : (m = 0 ∧ l = []) ∨ ∃ k, s.h id = some k ∧ lo + m ≤ k.c.length ∧ l = (k.c.drop lo).take m := by
  unfold M.rd at h
  cases h0 : Nat.beq m 0 <;> rw [h0] at h <;> simp only at h
  · split at h
    · cases h
    · rename_i k hk
      split at h
      · rename_i hle
        cases h
        exact .inr ⟨k, hk, Nat.le_of_ble_eq_true hle, rfl⟩
      · cases h
  · obtain ⟨rfl, rfl⟩ := pure_some h
    exact .inl ⟨Nat.eq_of_beq_eq_true h0, rfl⟩
theorem put_put (h : Heap) (i : Id) (b : Option Blk) : Heap.put (Heap.put h i none) i b = Heap.put h i b := by
  funext j
  unfold Heap.put
  by_cases e : j.num = i.num
  · rw [if_pos e, if_pos e]
  · rw [if_neg e, if_neg e, if_neg e]
/-- After the call: a row of pairs where the block was, or new. -/
theorem repl_end {β : Id → CA} {D : Id → Prop} {B : Nat} {h : Heap} {W w w' : World} (hr : Rel β D B W h w) {id nid : Id} (hdn : ¬ D nid) {og : Option Nat}
    (hog : ∀ g, og = some g → h id ≠ none ∧ g = (β id).blk) {ys : List Rg} {l : List AV} (hl : VRs β D l (flat encR ys)) (h1 : ∀ v ∈ l, v.one = true) (hy : ys ≠ []) {z : Zf} (hzm : z.m = none) (hzs : z.s = false) (hzt : z.t = false)
    {e : Ending} (hR : Repl w og ys e w') :
    ∃ β' D' V, e = .returned V ∧ Ext β D β' D' nid.num (nid.num + 1) ∧ Rel β' D' B W (Heap.put (Heap.put h id none) nid (some ⟨z, l⟩)) w' ∧ VR β' D' (.so nid 0 ys.length ys.length 2) V := by
  obtain ⟨v', og', E, rfl, hs, hg, hu⟩ := hR
  rcases hs with ⟨_, e, _⟩ | ⟨g, zs, rfl, rfl, hrow, hcap⟩
  · exact absurd e hy
  have hid : ∀ g, og = some g → B ≤ g := fun g e => by
    obtain ⟨a, b⟩ := hog g e
    rw [b]
    cases hk : h id with
    | none => exact absurd hk a
    | some k => exact hr.hr.old id (hr.hr.live id k hk).1
  have hBg : B ≤ g := by
    rcases hg with e | ⟨g', e, hb⟩
    · exact hid g e.symm
    · cases e
      exact Nat.le_trans hr.hr.size hb
  have hsize : (flat encR (ys ++ zs)).toArray.size = (ys.length + zs.length) * 2 := by simp [flat_length encR_len]
  have hll : l.length = (flat encR ys).length := hl.length.symm
  have hm := HR.moved hr.hr (id := id) (nid := nid) (w' := w') hdn (a := ⟨g, 0, (ys.length + zs.length) * 2⟩) (k := ⟨z, l⟩) hzm
    ⟨(flat encR (ys ++ zs)).toArray, E, (0, 0), hrow, hsize, by rw [hzs]; rfl, ⟨by rw [hsize, hll, flat_length encR_len]; simp only; omega, h1, fun j v hv => by
        obtain ⟨V, hV, hvr⟩ := hl.get j v hv
        refine ⟨V, ?_, hvr⟩
        have hj : j < (flat encR ys).length := (List.getElem?_eq_some_iff.1 hV).1
        simp only [Nat.zero_add, List.getElem?_toArray, flat_append]
        rw [List.getElem?_append_left hj]
        exact hV⟩, fun _ => rfl, fun e => by rw [hzt] at e; cases e⟩ hBg
    (fun j kk hk hne => by
      obtain ⟨hdj, hlj⟩ := hr.hr.live j kk hk
      obtain ⟨_, hb⟩ := hlj.there
      have hlt := heap_lt hb
      have hno : ∀ g0, og = some g0 → (β j).blk ≠ g0 := fun g0 e => by
        obtain ⟨a, b⟩ := hog g0 e
        rw [b]
        exact fun x => hne (hr.hr.inj j id (by rw [hk]; simp) a x)
      refine ⟨?_, hu.block _ hlt fun e => hno _ e rfl⟩
      rcases hg with e | ⟨g', e, hb'⟩
      · exact hno g e.symm
      · cases e
        simp only
        omega) hu.size
  refine ⟨_, _, _, rfl, named_ext β _ hdn, ⟨hm, Upd.onto hr.bel hu hr.hr.size fun k hk e => ?_⟩, ?_⟩
  · have := hid k e
    omega
  · simp only [VR]
    rw [named_same]
    refine ⟨by simp, Nat.le_refl _, 0, ys.length + zs.length, rfl, ⟨by omega, hcap⟩, ?_, ?_⟩
    · simp
    · first | trivial | (simp only; omega) | omega

theorem replOk : OwnOk Tryz.prog replF 0 383 := by
  intro l s v s' h β D B W w L hL hr hf
  match l, hL, h with
  | [], _, h => simp only [replF, M.no] at h; cases h
  | [_], _, h => simp only [replF, M.no] at h; cases h
  | [_, _], _, h => simp only [replF, M.no] at h; cases h
  | [_, _, _], _, h => simp only [replF, M.no] at h; cases h
  | _ :: _ :: _ :: _ :: _ :: _, _, h => simp only [replF, M.no] at h; cases h
  | [sv, iv, jv, ev], hL, h =>
    simp only [VRs] at hL
    obtain ⟨S, _, rfl, hS, I, _, rfl, hI, J, _, rfl, hJ, V, _, rfl, hV, rfl⟩ := hL
    simp only [replF] at h
    cases ev <;> first | (simp only [replV, M.no] at h; cases h; done) | skip
    rename_i vid off n c
    simp only [replV] at h
    have h0 := ifB_some h
    clear h
    obtain ⟨hg, h⟩ := h0
    have h0 := ofO_some h
    clear h
    obtain ⟨i, hi, h⟩ := h0
    have h0 := ofO_some h
    clear h
    obtain ⟨j, hj, h⟩ := h0
    have h0 := bind_some h
    clear h
    obtain ⟨zv, u1, h1, h⟩ := h0
    have h0 := ifB_some h
    clear h
    obtain ⟨hz, h⟩ := h0
    have h0 := bind_some h
    clear h
    obtain ⟨vs, u2, h2, h⟩ := h0
    obtain rfl := nat64_vr hi hI
    obtain rfl := nat64_vr hj hJ
    simp only [Bool.and_eq_true] at hg hz
    obtain rfl := Nat.eq_of_beq_eq_true hg.1
    obtain rfl := Nat.eq_of_beq_eq_true hg.2.1
    obtain rfl := Nat.eq_of_beq_eq_true hg.2.2
    obtain ⟨⟨z1, z2⟩, z3, z4⟩ := hz
    have z2' := Nat.eq_of_beq_eq_true z2
    have z1' : zv.1.s = false := by simpa using z1
    obtain ⟨e1, e2, kv, hkv, e3, e4, ekm⟩ := ends_ok h1
    rw [← e3] at z1' z3 z4
    obtain ⟨e5, e6, e7, _⟩ := rd_ok (w := w) (by rw [e1]; exact hr.hr) h2
    have hzk : Zok kv.z (β vid) kv.c.length := by obtain ⟨_, _, _, _, _, _, _, _, x⟩ := hr.hr.cells hkv ekm; exact x
    have hb0 := hzk.b z3
    have ht0 := hzk.t z4
    obtain ⟨rv, Ev, hrowv, hlenv, _, hcellsv⟩ := row_of hr.hr hkv ekm z1' z3 (m := 1) (by omega)
    obtain ⟨r, rfl⟩ : ∃ r, rv = [r] := by
      match rv, hlenv with
      | [r], _ => exact ⟨r, rfl⟩
    have hvs : vs = kv.c.take (1 * 2) := by
      rcases rd_how h2 with ⟨x, _⟩ | ⟨k, hk, _, e⟩
      · cases x
      · rw [e1, hkv] at hk
        cases hk
        simpa using e
    have hvv : VRs β D vs (flat encR [r]) := by
      rw [hvs]
      exact take_vrs hcellsv (n := 1) (by omega)
    have hvo : ∀ v ∈ vs, v.one = true := fun v hv => hcellsv.one v (List.mem_of_mem_take (by rw [hvs] at hv; exact hv))
    have hro : Go.Proofs.YthknbcbkibbncaaGreat.oneR r := take_one hcellsv (n := 1) (by omega) r (by simp)
    simp only [VR] at hV
    obtain ⟨hdv, rfl⟩ := hV
    rw [hb0]
    have hh : u2.h = s.h := by rw [e5, e1]
    have hn : u2.n = s.n := by rw [e6, e2]
    have hr2 : Rel β D B W u2.h w := by rw [hh]; exact hr
    cases sv <;> first | (simp only [replB, M.no] at h; cases h; done) | skip
    · simp only [replB] at h
      have h0 := ifB_some h
      clear h
      obtain ⟨hg, h⟩ := h0
      have h0 := bind_some h
      clear h
      obtain ⟨nid, u3, h3, h⟩ := h0
      obtain ⟨rfl, rfl⟩ := pure_some h
      simp only [Bool.and_eq_true] at hg
      obtain rfl := Nat.eq_of_beq_eq_true hg.1
      obtain rfl := Nat.eq_of_beq_eq_true hg.2
      obtain ⟨rfl, n2, n3⟩ := new_ok hr2.hr h3
      simp only [VR] at hS
      subst hS
      have hdn : ¬ D u2.n := hf _ (by rw [hn]; exact Nat.le_refl _) (by omega)
      refine (replace_any (E := Ev) (.slice none 0 0) none [] 0 0 (β vid).blk r w (.inl ⟨rfl, rfl, rfl⟩) (by simp) hro (Nat.le_refl _) (Nat.le_refl _) hrowv (by simp) (by simp)).mono fun e w' hR => ?_
      obtain ⟨β', D', V, x1, x2, x3, x4⟩ := repl_end hr2 (id := u2.n) hdn (by simp) (l := vs) (by simpa using hvv) hvo (by simp) (z := (zc false true false)) rfl rfl rfl hR
      rw [put_put] at x3
      exact ⟨β', D', V, x1, by rw [n2, ← hn]; exact x2, by rw [n3]; exact x3, x4⟩
    · rename_i id off n q w2
      simp only [replB] at h
      have h0 := ifB_some h
      clear h
      obtain ⟨hg, h⟩ := h0
      have h0 := bind_some h
      clear h
      obtain ⟨zz, u3, h3, h⟩ := h0
      have h0 := ifB_some h
      clear h
      obtain ⟨hz2, h⟩ := h0
      have h0 := bind_some h
      clear h
      obtain ⟨old, u4, h4, h⟩ := h0
      have h0 := bind_some h
      clear h
      obtain ⟨nid, u5, h5, h⟩ := h0
      obtain ⟨rfl, rfl⟩ := pure_some h
      simp only [Bool.and_eq_true] at hg hz2
      obtain ⟨⟨⟨g1, g2⟩, g3⟩, g4, g5, g6, g7⟩ := hg
      obtain rfl := Nat.eq_of_beq_eq_true g1
      obtain rfl := Nat.eq_of_beq_eq_true g3
      have g2' : 1 ≤ q := Nat.le_of_ble_eq_true g2
      have g4' : i ≤ j := Nat.le_of_ble_eq_true g4
      have g5' : j ≤ n := Nat.le_of_ble_eq_true g5
      have g6' : n ≤ 1048576 := Nat.le_of_ble_eq_true g6
      have hne : id ≠ vid := fun e => by subst e; simp at g7
      have q1 : zz.s = false := by simpa using hz2.1
      obtain ⟨k1, k2, k, hk, rfl, ekk⟩ := shared_ok h3
      obtain ⟨m1, m2, m3, _⟩ := rd_ok (w := w) (by rw [k1]; exact hr2.hr) h4
      obtain ⟨rfl, n2, k', hk', hle, _, n3⟩ := over_ok h5
      rw [m1, k1, hk] at hk'
      cases hk'
      have hold : n * 2 ≤ k.c.length ∧ old = k.c.take (n * 2) := by
        rcases rd_how h4 with ⟨x, y⟩ | ⟨k', hk', y, e⟩
        · rw [x, y]; simp
        · rw [k1, hk] at hk'
          cases hk'
          exact ⟨by omega, by simpa using e⟩
      obtain ⟨hnk, rfl⟩ := hold
      simp only [VR] at hS
      obtain ⟨hdi, hlk, x, cap, rfl, ⟨hqc, hcm⟩, hx, hlim⟩ := hS
      obtain rfl : x = (β id).base + 0 := hx.resolve_left (by omega)
      have hzk2 : Zok k.z (β id) k.c.length := by rw [hh] at hk; obtain ⟨_, _, _, _, _, _, _, _, x⟩ := hr.hr.cells hk ekk; exact x
      have hb2 := hzk2.b hz2.2
      obtain ⟨rs, E, hrow, hlen, _, hcells⟩ := row_of hr2.hr hk ekk q1 hz2.2 (m := cap) (by omega)
      have hdn : ¬ D u4.n := hf _ (by rw [m2, k2, hn]; exact Nat.le_refl _) (by omega)
      have hxl : (rs.take n).length = n := by rw [List.length_take, hlen]; omega
      rw [hb2]
      refine (replace_any (E := E) (E' := Ev) (.slice (some ⟨(β id).blk, 0 + 0, none⟩) n cap) (some (β id).blk) (rs.take n) i j (β vid).blk r w
        (.inr ⟨_, rs.drop n, rfl, by rw [hxl, List.length_drop, hlen]; congr 1; omega, by rw [List.take_append_drop]; exact hrow, by rw [hxl, List.length_drop, hlen]; omega⟩)
        (take_one hcells hnk) hro g4' (by rw [hxl]; exact g5') hrowv
        (fun e => hne (hr2.hr.inj id vid (by rw [hk]; simp) (by rw [hh, hkv]; simp) (by simpa using e))) (by rw [hxl]; omega)).mono fun e w' hR => ?_
      have hyl : ((rs.take n).take i ++ r :: (rs.take n).drop j).length = i + 1 + (n - j) := by
        rw [List.length_append, List.length_cons, List.length_take, List.length_drop, hxl]; omega
      have hvr : VRs β D ((k.c.drop 0).take (i * 2) ++ (vs ++ (k.c.take (n * 2)).drop (j * 2))) (flat encR ((rs.take n).take i ++ r :: (rs.take n).drop j)) := by
        rw [flat_append, flat_cons]
        refine VRs.append ?_ (VRs.append ?_ ?_)
        · rw [List.take_take, Nat.min_eq_left (by omega), List.drop_zero]
          exact take_vrs hcells (by omega)
        · have := hvv
          rw [flat_cons, flat_nil, List.append_nil] at this
          exact this
        · rw [← flat_drop encR_len]
          exact (take_vrs hcells hnk).drop _
      have hone : ∀ v ∈ (k.c.drop 0).take (i * 2) ++ (vs ++ (k.c.take (n * 2)).drop (j * 2)), v.one = true := by
        intro v hv
        rcases List.mem_append.1 hv with hv | hv
        · exact hcells.one v (List.mem_of_mem_drop (List.mem_of_mem_take hv))
        · rcases List.mem_append.1 hv with hv | hv
          · exact hvo v hv
          · exact hcells.one v (List.mem_of_mem_take (List.mem_of_mem_drop hv))
      obtain ⟨β', D', V, x1, x2, x3, x4⟩ := repl_end hr2 (id := id) (nid := u4.n) hdn (by rintro g ⟨⟩; exact ⟨by rw [hk]; simp, rfl⟩) hvr hone (by simp) (z := k.z.over 0) rfl q1 rfl hR
      rw [hyl] at x4
      exact ⟨β', D', V, x1, by rw [n2, ← hn, ← k2, ← m2]; exact x2, by rw [n3, m1, k1]; exact x3, x4⟩
end Ev
end Go.Proofs.YthknbcbkibbncaaGreat
