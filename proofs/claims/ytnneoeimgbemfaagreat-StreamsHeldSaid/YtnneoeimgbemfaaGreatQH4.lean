/- DERIVED. Frames as values. -/
import Derived.Laws.Rows
import Derived.Laws.Tables
import Derived.Laws.MakeOwn
import Derived.Laws.OwnMore
import Derived.Deep.RegionLaw
import Derived.Deep.DeepMust
import Derived.Lib.Overlaps
import Derived.Test.YtnneoeimgbemfaaGreatQH2
import Derived.Test.YtnneoeimgbemfaaGreatQH3
set_option linter.all false
namespace Go.Proofs.YtnneoeimgbemfaaGreat
open Go.RowKit

structure Fr where
  kd : Int
  sid : Nat
  off : Nat
  vd : Value
  fin : Bool
  lim : Nat
  code : Nat
  fnl : Nat
  seq : Nat
  dly : Nat
  vr : Value
  c0 : Nat
  c1 : Nat
  c2 : Nat
  c3 : Nat
  c4 : Nat
  c5 : Nat
  c6 : Nat
  c7 : Nat
def encF (f : Fr) : List Value := [.int .i64 f.kd, .int .u64 f.sid, .int .u64 f.off, f.vd, .bool f.fin, .int .u64 f.lim, .int .u64 f.code, .int .u64 f.fnl, .int .u64 f.seq, .int .u64 f.dly, f.vr,
  .int .u8 f.c0, .int .u8 f.c1, .int .u8 f.c2, .int .u8 f.c3, .int .u8 f.c4, .int .u8 f.c5, .int .u8 f.c6, .int .u8 f.c7]
theorem encF_len (f : Fr) : (encF f).length = 19 := rfl
structure FrOk (f : Fr) : Prop where
  kd : -9223372036854775808 ≤ f.kd ∧ f.kd ≤ 9223372036854775807
  sid : f.sid < 18446744073709551616
  off : f.off < 18446744073709551616
  lim : f.lim < 18446744073709551616
  code : f.code < 18446744073709551616
  fnl : f.fnl < 18446744073709551616
theorem sizeF : (Tryz.prog.info? 46).map (·.size) = some 19 := by kernel_rfl
def zeroF : Fr := ⟨0, 0, 0, .slice none 0 0, false, 0, 0, 0, 0, 0, .slice none 0 0, 0, 0, 0, 0, 0, 0, 0, 0⟩
theorem results_row_tmp {P : Program} {fn : Func} {p u : Tmp} {ty : TypeId} (h : fn.results = #[.cell p ty, .tmp u]) (tmps : Array Value) (w : World) (g : Nat) (t : TypeId) (cs : Array Value) (fr : Nat × Nat) (d : TypeDesc)
    (hp : tmps.getD p undef = .pointer (some ⟨g, 0, none⟩)) (hg : w.heap[g]? = some (.cells cs t fr))
    (hu : P.underlying ty = some d) (hd : (match d with | .struct _ | .array _ _ => true | _ => false) = true) (hi : (P.info? ty).map (·.size) = some cs.size) :
    (results fn tmps).run P w = .ok (.tuple #[.agg cs, tmps.getD u undef]) w := by
  have hp' : tmps[p]?.getD undef = .pointer (some ⟨g, 0, none⟩) := by simpa using hp
  simp [results, h, hp', asAddr, run_loadVar_row w g t ty cs fr d hg hu hd hi]
theorem Upd.setRowN {F : Nat → Prop} {a w : World} (h : Upd F a w) (y : Nat) (hy : F y ∨ a.heap.size ≤ y) (cs : Array Value) : Upd F a (w.setRow y cs) :=
  ⟨h.os, h.tape, h.output, by simpa using h.size, fun k hk q => (setRow_other w y k cs (fun e => by
    subst e
    rcases hy with hy | hy
    · exact q hy
    · omega)).trans (h.block k hk q)⟩
end Go.Proofs.YtnneoeimgbemfaaGreat

/- DERIVED. What a byte's type is. -/
namespace Go.Proofs.YtnneoeimgbemfaaGreat
open Go.RowKit

theorem infoB : (Tryz.prog.info? 5).map (fun i => (i.zero, i.size, i.bytes)) = some (some (.int .u8 0), 1, 1) := by kernel_rfl
theorem zeroB : (Value.int .u8 0).cells.toList = encB 0 := rfl
end Go.Proofs.YtnneoeimgbemfaaGreat

/- DERIVED. slices.Clone of bytes. -/
namespace Go.Proofs.YtnneoeimgbemfaaGreat
open Go.RowKit

set_option maxRecDepth 100000 in
set_option maxHeartbeats 1000000 in
theorem cloneB_any (v : Value) (xs : List Nat) {B : Nat} (w : World) (h : Vw encB w B v xs) (hB : B ≤ w.heap.size) (hl : xs.length ≤ 1000000000) :
    Calls Tryz.prog 65 #[v] w fun e w' => ∃ v' og', e = .returned v' ∧ SlG encB 5 w' v' og' xs ∧ (∀ g, og' = some g → w.heap.size ≤ g) ∧ Below w.heap.size w w' := by
  obtain ⟨i0, hi0, hz0, hz1, hz2'⟩ := info_parts infoB
  have hnil := Lib.run_eql_slice_nil (P := Tryz.prog) w 31 5
  obtain ⟨oa, cap, rfl, hc1, hc2⟩ := h.shape
  have H := Lib.hid h
  have HL := Lib.hid hl
  clear h hl
  generalize hn : xs.length = len at *
  have HN := Lib.hid hn
  cases oa with
  | none =>
    have hx : xs = [] := by
      obtain ⟨_, _, h1, _, _, h4⟩ := H.out
      cases h1
      rcases h4 with h4 | ⟨_, _, h5, _⟩
      · exact h4
      · cases h5
    subst hx
    clear hn
    go_enter Tryz.func65, Tryz.ntmps65
    go_wp2
    go_ret
    exact ⟨_, none, rfl, SlG.nil _, by simp, Below.refl _ _⟩
  | some ad =>
    clear hn
    go_enter Tryz.func65, Tryz.ntmps65
    go_wp2_with (refine wpList_pushV encB_len encB_one Tryz.underlying31 hi0 hz1 hz0 zeroB rfl (.tmp 5) (.tmp 6) rfl (by exact SlG.fresh0) (by exact H.out.below (((Below.refl _ _).alloc (Nat.le_refl _) _).mono hB)) rfl rfl (by rw [HN.out, hz2']; have := HL.out; simp; omega) (by rw [HN.out]; have := HL.out; simp; omega) ?_)
    intro W1 v1 og1 hs1 ho1 hu1
    have H1 := Lib.hid hs1
    have HG := Lib.hid (og_new (B := w.heap.size) (fun g e => by cases e; exact Nat.le_refl _) (by simp) ho1)
    have HB1 := Lib.hid (show Below w.heap.size w W1 from Upd.belowOf ((Below.refl _ _).alloc (Nat.le_refl _) _) hu1 (fun j hj e => by cases e; omega))
    clear hs1 ho1 hu1
    go_wp2
    go_ret
    exact ⟨_, og1, rfl, H1.out, HG.out, HB1.out⟩
end Go.Proofs.YtnneoeimgbemfaaGreat

/- DERIVED. Walk of slices.Replace at ranges: one element for at least one. -/
namespace Go.Proofs.YtnneoeimgbemfaaGreat
open Go.RowKit

theorem replace_rows {rs : List Rg} {r : Rg} {i k n cap : Nat} {zz : List Rg} (hik : i < k) (hkn : k < n) (hnc : n ≤ cap) (hrs : rs.length = cap)
    (hz : zz = splice (splice rs i [r]) (i + 1) (((splice rs i [r]).drop k).take (n - k)) ∨ ∃ c, zz = splice (splice (splice rs i [r]) (i + 1) (((splice rs i [r]).drop k).take (n - k))) (i + 1 + (n - k)) c ∧ i + 1 + (n - k) + c.length ≤ cap) :
    ∃ zs, zz = (rs.take i ++ r :: (rs.take n).drop k) ++ zs ∧ i + 1 + (n - k) + zs.length = cap := by
  have l1 : (splice rs i [r]).length = cap := by rw [splice_len _ _ _ (by simp; omega), hrs]
  have m1 : ((splice rs i [r]).drop k).take (n - k) = (rs.take n).drop k := by
    rw [splice_drop_ge (by simp; omega) (by simp; omega), List.drop_take]
  have ml : ((rs.take n).drop k).length = n - k := by rw [List.length_drop, List.length_take]; omega
  rw [m1] at hz
  have l2 : (splice (splice rs i [r]) (i + 1) ((rs.take n).drop k)).length = cap := by rw [splice_len _ _ _ (by rw [l1, ml]; omega), l1]
  have t2 : (splice (splice rs i [r]) (i + 1) ((rs.take n).drop k)).take (i + 1 + (n - k)) = rs.take i ++ [r] ++ (rs.take n).drop k := by
    have h1 := splice_take_end (L := splice rs i [r]) (c := (rs.take n).drop k) (o := i + 1) (by omega)
    have h2 := splice_take_end (L := rs) (c := [r]) (o := i) (by omega)
    rw [ml] at h1
    rw [h1]
    congr 1
  have t3 : zz.take (i + 1 + (n - k)) = rs.take i ++ [r] ++ (rs.take n).drop k ∧ zz.length = cap := by
    rcases hz with rfl | ⟨c, rfl, hc⟩
    · exact ⟨t2, l2⟩
    · exact ⟨by rw [splice_take_lt (Nat.le_refl _) (by rw [l2]; omega)]; exact t2, by rw [splice_len _ _ _ (by rw [l2]; exact hc), l2]⟩
  refine ⟨zz.drop (i + 1 + (n - k)), ?_, ?_⟩
  · have e : rs.take i ++ r :: (rs.take n).drop k = rs.take i ++ [r] ++ (rs.take n).drop k := by simp
    rw [e, ← t3.1, List.take_append_drop]
  · rw [List.length_drop, t3.2]; omega

set_option maxRecDepth 100000 in
set_option maxHeartbeats 400000 in
theorem replace_mid (g h : Nat) (rs : List Rg) (r : Rg) (i k n cap : Nat) (w : World) (hik : i < k) (hkn : k < n) (hnc : n ≤ cap) (hrs : rs.length = cap) (hg : RowR w g rs) (hh : RowR w h [r]) (_hgh : g ≠ h) (hm : cap ≤ 9223372036854775807) :
    Calls Tryz.prog 85 #[.slice (some ⟨g, 0, none⟩) n cap, .int .i64 i, .int .i64 k, .slice (some ⟨h, 0, none⟩) 1 1] w
      fun e w' => e = .returned (.slice (some ⟨g, 0, none⟩) (i + 1 + (n - k)) cap) ∧ Head w' g (rs.take i ++ r :: (rs.take n).drop k) cap ∧ Upd (fun k => k = g) w w' := by
  obtain ⟨i0, hi, hz0, hz1, hz2⟩ := info_parts infoR
  have HG := Lib.hid hg
  have HH := Lib.hid hh
  have HN := Lib.hid hrs
  clear hg hh hrs
  go_enter Tryz.func85, Tryz.ntmps85
  go_wp2_with fail
  go_quiet (fail)
  go_wp2_with (refine wpList_copy_at encR_len encR_one Tryz.underlying42 hi hz1 rfl (.tmp 95) (.tmp 96) 42 rfl (by exact HG.out) (by exact HH.out) i 0 1 rfl rfl rfl rfl ?c1 ?c2 ?c3 ?_)
  case c1 => omega
  case c2 => rw [HN.out]; omega
  case c3 => exact Nat.le_refl _
  intro W1 hW1 hU1
  have H1 := Lib.hid hW1
  have U1 := Lib.hid hU1
  have L1 := Lib.hid (show (splice rs i [r]).length = cap by rw [splice_len _ _ _ (by rw [HN.out]; simp; omega), HN.out])
  clear hW1 hU1
  go_wp2_with fail
  have f1 : IntKind.i64.wrap ((i : Int) + 1) = (i : Int) + 1 := IntWalk.i64_in _ (by omega)
  have f2 : ((i : Int) + 1).toNat = i + 1 := by omega
  have f3 : (0 : Int) ≤ (i : Int) + 1 := by omega
  have f4 : (i : Int) + 1 ≤ (i : Int) + 1 + ((n - k : Nat) : Int) := by omega
  have f5 : ¬ cap = i + 1 := by omega
  have f6 : ¬ cap = k := by omega
  have f7 : k ≤ n := by omega
  go_still_tail 9, (by kernel_rfl)
  change wpList _ _ _ _ _ W1.drew
  clear f1 f2 f3 f4 f5 f6 f7
  go_wp2_with (refine wpList_copy_at encR_len encR_one Tryz.underlying42 hi hz1 rfl (.tmp 103) (.tmp 106) 42 rfl (by exact H1.out) (by exact H1.out) (i + 1) k (n - k) rfl rfl rfl rfl ?d1 ?d2 ?d3 ?_)
  case d2 => rw [L1.out]; omega
  case d3 => rw [L1.out]; omega
  intro W2 hW2 hU2
  have H2 := Lib.hid hW2
  have U2 := Lib.hid hU2
  have L2 := Lib.hid (show (splice (splice rs i [r]) (i + 1) (((splice rs i [r]).drop k).take (n - k))).length = cap by rw [splice_len _ _ _ (by rw [L1.out, List.length_take, List.length_drop, L1.out]; omega), L1.out])
  clear hW2 hU2
  by_cases hx : i + 1 + (n - k) < cap
  · go_wp2_with (refine wpList_clear_at encR_len encR_one Tryz.underlying42 hi hz0 zeroR rfl (.tmp 110) rfl (by exact H2.out) (i + 1 + (n - k)) (n - (i + 1 + (n - k))) rfl rfl ?e1 ?_)
    case e1 => rw [L2.out]; omega
    intro W3 hW3 hU3
    have H3 := Lib.hid hW3
    have U3 := Lib.hid hU3
    clear hW3 hU3
    go_wp2
    go_ret
    refine ⟨rfl, ?_, ?_⟩
    · obtain ⟨zs, hzs, hlen⟩ := replace_rows (zz := splice (splice (splice rs i [r]) (i + 1) (((splice rs i [r]).drop k).take (n - k))) (i + 1 + (n - k)) (List.replicate (n - (i + 1 + (n - k))) (0, 0))) hik hkn hnc HN.out (.inr ⟨_, rfl, by simp; omega⟩)
      exact ⟨zs, by rw [← hzs]; exact H3.out, by simp only [List.length_append, List.length_take, List.length_drop, List.length_cons, HN.out]; omega⟩
    · exact (((Upd.refl _ w).drewN nq).then U1.out).drew.then (U2.out.then U3.out)
  · have hcn : n = cap := by omega
    have hk1 : k = i + 1 := by omega
    have HC := Lib.hid hcn
    have HK := Lib.hid hk1
    clear hcn hk1
    go_wp2_with (refine wpList_clear_zero Tryz.underlying42 rfl (.tmp 110) rfl rfl ?e2 ?_)
    case e2 => have := HC.out; have := HK.out; omega
    go_wp2
    have hcap : i + 1 + (n - k) = cap := by omega
    go_ret
    refine ⟨rfl, ?_, ?_⟩
    · rw [hcap]
      obtain ⟨zs, hzs, hlen⟩ := replace_rows (zz := splice (splice rs i [r]) (i + 1) (((splice rs i [r]).drop k).take (n - k))) hik hkn hnc HN.out (.inl rfl)
      exact ⟨zs, by rw [← hzs]; exact H2.out, by simp only [List.length_append, List.length_take, List.length_drop, List.length_cons, HN.out]; omega⟩
    · exact (((Upd.refl _ w).drewN nq).then U1.out).drew.then U2.out
end Go.Proofs.YtnneoeimgbemfaaGreat

/- DERIVED. Walk of slices.Replace at ranges: one element for at least one, up to the end. -/
namespace Go.Proofs.YtnneoeimgbemfaaGreat
open Go.RowKit

theorem replace_rows2 {rs : List Rg} {r : Rg} {i n cap : Nat} {zz : List Rg} (hin : i < n) (hnc : n ≤ cap) (hrs : rs.length = cap)
    (hz : zz = splice rs i [r] ∨ ∃ c, zz = splice (splice rs i [r]) (i + 1) c ∧ i + 1 + c.length ≤ cap) :
    ∃ zs, zz = (rs.take i ++ [r]) ++ zs ∧ i + 1 + zs.length = cap := by
  have l1 : (splice rs i [r]).length = cap := by rw [splice_len _ _ _ (by simp; omega), hrs]
  have t1 : (splice rs i [r]).take (i + 1) = rs.take i ++ [r] := splice_take_end (L := rs) (c := [r]) (o := i) (by omega)
  have t3 : zz.take (i + 1) = rs.take i ++ [r] ∧ zz.length = cap := by
    rcases hz with rfl | ⟨c, rfl, hc⟩
    · exact ⟨t1, l1⟩
    · exact ⟨by rw [splice_take_lt (Nat.le_refl _) (by rw [l1]; omega)]; exact t1, by rw [splice_len _ _ _ (by rw [l1]; exact hc), l1]⟩
  refine ⟨zz.drop (i + 1), ?_, ?_⟩
  · rw [← t3.1, List.take_append_drop]
  · rw [List.length_drop, t3.2]; omega

set_option maxRecDepth 100000 in
set_option maxHeartbeats 400000 in
theorem replace_end (g h : Nat) (rs : List Rg) (r : Rg) (i n cap : Nat) (w : World) (hin : i < n) (hnc : n ≤ cap) (hrs : rs.length = cap) (hg : RowR w g rs) (hh : RowR w h [r]) (_hgh : g ≠ h) (_hm : cap ≤ 9223372036854775807) :
    Calls Tryz.prog 85 #[.slice (some ⟨g, 0, none⟩) n cap, .int .i64 i, .int .i64 n, .slice (some ⟨h, 0, none⟩) 1 1] w
      fun e w' => e = .returned (.slice (some ⟨g, 0, none⟩) (i + 1) cap) ∧ Head w' g (rs.take i ++ [r]) cap ∧ Upd (fun k => k = g) w w' := by
  obtain ⟨i0, hi, hz0, hz1, hz2⟩ := info_parts infoR
  have HG := Lib.hid hg
  have HH := Lib.hid hh
  have HN := Lib.hid hrs
  clear hg hh hrs
  go_enter Tryz.func85, Tryz.ntmps85
  go_wp2_with (refine wpList_append_at encR_len encR_one Tryz.underlying42 hi hz1 rfl (.tmp 32) (.tmp 33) rfl (by exact HG.out) (by exact HH.out) 0 0 rfl rfl rfl rfl ?c1 ?c2 ?c3 ?_)
  case c1 => omega
  case c2 => rw [HN.out]; omega
  case c3 => exact Nat.le_refl _
  intro W1 hW1 hU1
  have H1 := Lib.hid (show Row encR W1 123 g (splice rs i [r]) by simpa using hW1)
  have U1 := Lib.hid hU1
  have L1 := Lib.hid (show (splice rs i [r]).length = cap by rw [splice_len _ _ _ (by rw [HN.out]; simp; omega), HN.out])
  clear hW1 hU1
  by_cases hx : i + 1 < n
  · go_wp2_with (refine wpList_clear_at encR_len encR_one Tryz.underlying42 hi hz0 zeroR rfl (.tmp 43) rfl (by exact H1.out) (i + 1) (n - (i + 1)) rfl rfl ?e1 ?_)
    case e1 => rw [L1.out]; omega
    intro W3 hW3 hU3
    have H3 := Lib.hid hW3
    have U3 := Lib.hid hU3
    clear hW3 hU3
    go_wp2
    go_ret
    refine ⟨rfl, ?_, U1.out.then U3.out⟩
    obtain ⟨zs, hzs, hlen⟩ := replace_rows2 (zz := splice (splice rs i [r]) (i + 1) (List.replicate (n - (i + 1)) (0, 0))) hin hnc HN.out (.inr ⟨_, rfl, by simp; omega⟩)
    exact ⟨zs, by rw [← hzs]; exact H3.out, by simp only [List.length_append, List.length_take, List.length_cons, List.length_nil, HN.out]; omega⟩
  · go_wp2
    go_ret
    refine ⟨rfl, ?_, U1.out⟩
    obtain ⟨zs, hzs, hlen⟩ := replace_rows2 (zz := splice rs i [r]) hin hnc HN.out (.inl rfl)
    exact ⟨zs, by rw [← hzs]; exact H1.out, by simp only [List.length_append, List.length_take, List.length_cons, List.length_nil, HN.out]; omega⟩
end Go.Proofs.YtnneoeimgbemfaaGreat

/- DERIVED. Walk of slices.Insert at ranges: one element. -/
namespace Go.Proofs.YtnneoeimgbemfaaGreat
open Go.RowKit

theorem insert_rows {rs : List Rg} {r : Rg} {i n cap : Nat} (hin : i ≤ n) (hnc : n < cap) (hrs : rs.length = cap) :
    ∃ zs, splice (splice rs (i + 1) ((rs.drop i).take (n - i))) i [r] = (rs.take i ++ r :: (rs.take n).drop i) ++ zs ∧ n + 1 + zs.length = cap := by
  have ml : ((rs.drop i).take (n - i)).length = n - i := by rw [List.length_take, List.length_drop]; omega
  have l1 : (splice rs (i + 1) ((rs.drop i).take (n - i))).length = cap := by rw [splice_len _ _ _ (by rw [ml]; omega), hrs]
  have l2 : (splice (splice rs (i + 1) ((rs.drop i).take (n - i))) i [r]).length = cap := by rw [splice_len _ _ _ (by rw [l1]; simp; omega), l1]
  have t1 : (splice rs (i + 1) ((rs.drop i).take (n - i))).take (n + 1) = rs.take (i + 1) ++ (rs.drop i).take (n - i) := by
    have := splice_take_end (L := rs) (c := (rs.drop i).take (n - i)) (o := i + 1) (by omega)
    rw [ml, show i + 1 + (n - i) = n + 1 by omega] at this
    exact this
  have t2 : (splice (splice rs (i + 1) ((rs.drop i).take (n - i))) i [r]).take (n + 1) = rs.take i ++ r :: (rs.take n).drop i := by
    have e : splice (splice rs (i + 1) ((rs.drop i).take (n - i))) i [r] = rs.take i ++ ([r] ++ (splice rs (i + 1) ((rs.drop i).take (n - i))).drop (i + 1)) := by
      have h0 : (splice rs (i + 1) ((rs.drop i).take (n - i))).take i = rs.take i := splice_take_lt (by omega) (by omega)
      unfold splice at h0 ⊢
      rw [h0]
      rfl
    have e2 : (splice rs (i + 1) ((rs.drop i).take (n - i))).drop (i + 1) = (rs.drop i).take (n - i) ++ rs.drop (n + 1) := by
      unfold splice
      rw [List.drop_append, List.drop_of_length_le (by rw [List.length_take]; omega), List.nil_append, show i + 1 - (rs.take (i + 1)).length = 0 by rw [List.length_take]; omega, List.drop_zero, ml, show i + 1 + (n - i) = n + 1 by omega]
    rw [e, e2, List.take_append, List.length_take, Nat.min_eq_left (by omega), List.take_take, Nat.min_eq_right (by omega), show n + 1 - i = (n - i) + 1 by omega]
    simp only [List.cons_append, List.nil_append, List.take_succ_cons]
    rw [List.take_append_of_le_length (by rw [ml]; omega), List.take_take, Nat.min_self, List.drop_take]
  refine ⟨(splice (splice rs (i + 1) ((rs.drop i).take (n - i))) i [r]).drop (n + 1), ?_, ?_⟩
  · rw [← t2, List.take_append_drop]
  · rw [List.length_drop, l2]; omega

theorem sizeR (w : World) : (Go.sizeOf 123).run Tryz.prog w = .ok 2 w := by
  obtain ⟨i0, hi, hz0, hz1, hz2⟩ := info_parts infoR
  simp [Go.sizeOf, typeInfo, hi, hz1]

theorem overlaps_not (g h : Nat) (rs : List Rg) (r : Rg) (o lb cb : Nat) (w : World) (hrs : 0 < rs.length) (hg : RowR w g rs) (hh : RowR w h [r]) (hgh : g ≠ h) :
    (callFunc 101 #[.slice (some ⟨h, 0, none⟩) 1 1, .slice (some ⟨g, o, none⟩) lb cb]).run Tryz.prog w = .ok (.value (.bool false)) w := by
  rw [run_callFunc_extern Tryz.func101 (by kernel_rfl) (by kernel_rfl) (by kernel_rfl) (e := Extern.SlicesOverlaps.overlaps #[42, 42] #[4]) (by kernel_rfl),
    Lib.run_overlaps_apart w 42 4 123 Tryz.underlying42 2 sizeR ⟨h, 0, none⟩ ⟨g, o, none⟩ 1 1 lb cb (fun e => hgh e.symm) 123 123 2 (rs.length * 2)
      (by simp [World.shape?, show w.heap[h]? = _ from hh, flat, encR]) (by simp [World.shape?, show w.heap[g]? = _ from hg, flat_length encR_len]) (by omega) (hh.free 0) (hh.free 2)]
  rfl

set_option maxRecDepth 100000 in
set_option maxHeartbeats 400000 in
theorem insert_shift (g h : Nat) (rs : List Rg) (r : Rg) (i n cap : Nat) (w : World) (hin : i < n) (hnc : n < cap) (hrs : rs.length = cap) (hg : RowR w g rs) (hh : RowR w h [r]) (hgh : g ≠ h) (hm : cap ≤ 9223372036854775807) :
    Calls Tryz.prog 100 #[.slice (some ⟨g, 0, none⟩) n cap, .int .i64 i, .slice (some ⟨h, 0, none⟩) 1 1] w
      fun e w' => e = .returned (.slice (some ⟨g, 0, none⟩) (n + 1) cap) ∧ Head w' g (rs.take i ++ r :: (rs.take n).drop i) cap ∧ Upd (fun k => k = g) w w' := by
  obtain ⟨i0, hi, hz0, hz1, hz2⟩ := info_parts infoR
  have hov := fun o lb cb => overlaps_not g h rs r o lb cb w (by omega) hg hh hgh
  have HG := Lib.hid hg
  have HH := Lib.hid hh
  have HN := Lib.hid hrs
  clear hg hh hrs
  go_enter Tryz.func100, Tryz.ntmps100
  go_wp2_with (simp only [hov])
  go_wp2_with fail
  clear hov
  have f1 : IntKind.i64.wrap ((i : Int) + 1) = (i : Int) + 1 := IntWalk.i64_in _ (by omega)
  have f2 : ((i : Int) + 1).toNat = i + 1 := by omega
  have f3 : (0 : Int) ≤ (i : Int) + 1 := by omega
  have f4 : (i : Int) + 1 ≤ (n : Int) + 1 := by omega
  have f5 : ¬ cap = i + 1 := by omega
  have f6 : ¬ cap = i := by omega
  have f7 : i ≤ n + 1 := by omega
  have f8 : i ≤ n := by omega
  have f9 : (i : Int) ≤ (n : Int) + 1 := by omega
  go_still_tail 8, (by kernel_rfl)
  change wpList _ _ _ _ _ w.drew
  clear f1 f2 f3 f4 f5 f6 f7 f8 f9
  go_wp2_with (refine wpList_copy_at encR_len encR_one Tryz.underlying42 hi hz1 rfl (.tmp 73) (.tmp 76) 42 rfl (by exact HG.out) (by exact HG.out) (i + 1) i (n - i) rfl rfl rfl rfl ?d1 ?d2 ?d3 ?_)
  case d1 => omega
  case d2 => rw [HN.out]; omega
  case d3 => rw [HN.out]; omega
  intro W1 hW1 hU1
  have H1 := Lib.hid hW1
  have U1 := Lib.hid hU1
  have HH1 := Lib.hid (hU1.keeps HH.out (fun e => hgh e.symm))
  have L1 := Lib.hid (show (splice rs (i + 1) ((rs.drop i).take (n - i))).length = cap by rw [splice_len _ _ _ (by rw [HN.out, List.length_take, List.length_drop, HN.out]; omega), HN.out])
  clear hW1 hU1
  go_wp2_with (refine wpList_copy_at encR_len encR_one Tryz.underlying42 hi hz1 rfl (.tmp 80) (.tmp 81) 42 rfl (by exact H1.out) (ss := [r]) (by exact HH1.out) i 0 1 rfl rfl rfl rfl ?e1 ?e2 ?e3 ?_)
  case e1 => omega
  case e2 => rw [L1.out]; omega
  case e3 => exact Nat.le_refl _
  intro W2 hW2 hU2
  have H2 := Lib.hid (show Row encR W2 123 g (splice (splice rs (i + 1) ((rs.drop i).take (n - i))) i [r]) by simpa using hW2)
  have U2 := Lib.hid hU2
  clear hW2 hU2
  go_wp2
  go_ret
  refine ⟨rfl, ?_, ((Upd.refl _ w).drew.then U1.out).then U2.out⟩
  obtain ⟨zs, hzs, hlen⟩ := insert_rows (r := r) (Nat.le_of_lt hin) hnc HN.out
  exact ⟨zs, by rw [← hzs]; exact H2.out, by simp only [List.length_append, List.length_take, List.length_drop, List.length_cons, HN.out]; omega⟩

set_option maxRecDepth 100000 in
set_option maxHeartbeats 400000 in
theorem insert_end (g h : Nat) (rs : List Rg) (r : Rg) (n cap : Nat) (w : World) (hnc : n < cap) (hrs : rs.length = cap) (hg : RowR w g rs) (hh : RowR w h [r]) (hm : cap ≤ 9223372036854775807) :
    Calls Tryz.prog 100 #[.slice (some ⟨g, 0, none⟩) n cap, .int .i64 n, .slice (some ⟨h, 0, none⟩) 1 1] w
      fun e w' => e = .returned (.slice (some ⟨g, 0, none⟩) (n + 1) cap) ∧ Head w' g (rs.take n ++ [r]) cap ∧ Upd (fun k => k = g) w w' := by
  obtain ⟨i0, hi, hz0, hz1, hz2⟩ := info_parts infoR
  have HG := Lib.hid hg
  have HH := Lib.hid hh
  have HN := Lib.hid hrs
  clear hg hh hrs
  go_enter Tryz.func100, Tryz.ntmps100
  go_wp2_with (refine wpList_append_at encR_len encR_one Tryz.underlying42 hi hz1 rfl (.tmp 23) (.tmp 24) rfl (by exact HG.out) (ss := [r]) (by exact HH.out) 0 0 rfl rfl rfl rfl ?c1 ?c2 ?c3 ?_)
  case c1 => omega
  case c2 => rw [HN.out]; omega
  case c3 => exact Nat.le_refl _
  intro W1 hW1 hU1
  have H1 := Lib.hid (show Row encR W1 123 g (splice rs n [r]) by simpa using hW1)
  have U1 := Lib.hid hU1
  clear hW1 hU1
  go_wp2
  go_ret
  refine ⟨rfl, ?_, U1.out⟩
  refine ⟨rs.drop (n + 1), ?_, by simp only [List.length_append, List.length_take, List.length_drop, List.length_cons, List.length_nil, HN.out]; omega⟩
  have e : splice rs n [r] = rs.take n ++ [r] ++ rs.drop (n + 1) := by simp [splice]
  rw [← e]
  exact H1.out

/-- A new row g' that begins with xs. -/
def Fresh (w w' : World) (xs : List Rg) (e : Ending) : Prop := ∃ cap, e = .returned (.slice (some ⟨w.heap.size, 0, none⟩) xs.length cap) ∧ Head w' w.heap.size xs cap ∧ cap ≤ 9223372036854775807 ∧ Below w.heap.size w w'

set_option maxRecDepth 100000 in
set_option maxHeartbeats 400000 in
theorem insert_end_grow (g h : Nat) (rs : List Rg) (r : Rg) (n : Nat) (w : World) (hrs : rs.length = n) (hg : RowR w g rs) (hh : RowR w h [r]) (hm : (n + 1) * 16 ≤ 140737488355328) :
    Calls Tryz.prog 100 #[.slice (some ⟨g, 0, none⟩) n n, .int .i64 n, .slice (some ⟨h, 0, none⟩) 1 1] w
      fun e w' => Fresh w w' (rs ++ [r]) e := by
  obtain ⟨i0, hi, hz0, hz1, hz2⟩ := info_parts infoR
  have HG := Lib.hid hg
  have HH := Lib.hid hh
  have HN := Lib.hid hrs
  clear hg hh hrs
  go_enter Tryz.func100, Tryz.ntmps100
  go_wp2_with (refine wpList_append_fresh encR_len Tryz.underlying42 hi hz1 hz0 zeroR rfl (.tmp 23) (.tmp 24) rfl (by exact HG.out) (ss := [r]) (by exact HH.out) 0 0 rfl rfl rfl rfl ?c1 ?c2 ?c3 ?c4 ?c5 ?c6 ?_)
  case c1 => omega
  case c2 => rw [HN.out]; omega
  case c3 => exact Nat.le_refl _
  case c4 => omega
  case c5 => omega
  case c6 => rw [hz2]; omega
  intro W1 cap hW1 hc1 hc2 hB1 hsz
  have H1 := Lib.hid (show RowR W1 w.heap.size ((rs ++ [r]) ++ List.replicate (cap - (n + 1)) (0, 0)) by
    have e : rs.take n = rs := List.take_of_length_le (by rw [HN.out]; omega)
    simpa [e] using hW1)
  have B1 := Lib.hid hB1
  have C1 := Lib.hid (show n + 1 ≤ cap ∧ cap ≤ 9223372036854775807 from ⟨hc1, hc2⟩)
  clear hW1 hc1 hc2 hB1 hsz
  go_wp2
  go_ret
  have hl : (rs ++ [r]).length = n + 1 := by simp [HN.out]
  exact ⟨cap, by rw [hl]; rfl, ⟨_, H1.out, by rw [hl, List.length_replicate]; have := C1.out; omega⟩, C1.out.2, B1.out⟩

set_option maxRecDepth 100000 in
set_option maxHeartbeats 400000 in
theorem insert_nil (h : Nat) (r : Rg) (w : World) (hh : RowR w h [r]) :
    Calls Tryz.prog 100 #[.slice none 0 0, .int .i64 0, .slice (some ⟨h, 0, none⟩) 1 1] w
      fun e w' => Fresh w w' [r] e := by
  obtain ⟨i0, hi, hz0, hz1, hz2⟩ := info_parts infoR
  have HH := Lib.hid hh
  clear hh
  go_enter Tryz.func100, Tryz.ntmps100
  go_wp2_with (refine wpList_append_nil encR_len Tryz.underlying42 hi hz1 hz0 zeroR rfl (.tmp 23) (.tmp 24) rfl (ss := [r]) (by exact HH.out) 0 rfl rfl rfl ?c1 ?c2 ?c3 ?c4 ?_)
  case c1 => omega
  case c2 => exact Nat.le_refl _
  case c3 => omega
  case c4 => rw [hz2]; omega
  intro W1 cap hW1 hc1 hc2 hB1 hsz
  have H1 := Lib.hid (show RowR W1 w.heap.size ([r] ++ List.replicate (cap - 1) (0, 0)) by simpa using hW1)
  have B1 := Lib.hid hB1
  have C1 := Lib.hid (show 1 ≤ cap ∧ cap ≤ 9223372036854775807 from ⟨hc1, hc2⟩)
  clear hW1 hc1 hc2 hB1 hsz
  go_wp2
  go_ret
  exact ⟨cap, rfl, ⟨_, H1.out, by rw [List.length_replicate]; have := C1.out; simp; omega⟩, C1.out.2, B1.out⟩

theorem grow_rows {rs Z : List Rg} {r : Rg} {i n cap : Nat} {z : Rg} (hin : i < n) (hnc : n + 1 ≤ cap) (hrs : rs.length = n) (hZ : Z = rs.take i ++ List.replicate (n + 1 - i + (cap - (n + 1))) z) :
    ∃ zs, splice (splice Z i [r]) (i + 1) ((rs.drop i).take (n - i)) = (rs.take i ++ r :: rs.drop i) ++ zs ∧ n + 1 + zs.length = cap := by
  have l0 : Z.length = cap := by rw [hZ]; simp; omega
  have e1 : (rs.drop i).take (n - i) = rs.drop i := List.take_of_length_le (by rw [List.length_drop]; omega)
  rw [e1]
  have ml : (rs.drop i).length = n - i := by rw [List.length_drop]; omega
  have l1 : (splice Z i [r]).length = cap := by rw [splice_len _ _ _ (by rw [l0]; simp; omega), l0]
  have l2 : (splice (splice Z i [r]) (i + 1) (rs.drop i)).length = cap := by rw [splice_len _ _ _ (by rw [l1, ml]; omega), l1]
  have t0 : Z.take i = rs.take i := by
    rw [hZ, List.take_append_of_le_length (by rw [List.length_take]; omega), List.take_take, Nat.min_self]
  have t1 : (splice Z i [r]).take (i + 1) = rs.take i ++ [r] := by
    have := splice_take_end (L := Z) (c := [r]) (o := i) (by rw [l0]; omega)
    rw [t0] at this
    exact this
  have t2 : (splice (splice Z i [r]) (i + 1) (rs.drop i)).take (n + 1) = rs.take i ++ r :: rs.drop i := by
    have := splice_take_end (L := splice Z i [r]) (c := rs.drop i) (o := i + 1) (by rw [l1]; omega)
    rw [ml, show i + 1 + (n - i) = n + 1 by omega, t1] at this
    rw [this]
    simp
  refine ⟨(splice (splice Z i [r]) (i + 1) (rs.drop i)).drop (n + 1), ?_, ?_⟩
  · rw [← t2, List.take_append_drop]
  · rw [List.length_drop, l2]; omega

set_option maxRecDepth 100000 in
set_option maxHeartbeats 400000 in
theorem insert_grow (g h : Nat) (rs : List Rg) (r : Rg) (i n : Nat) (w : World) (hin : i < n) (hrs : rs.length = n) (hg : RowR w g rs) (hh : RowR w h [r]) (hm : (n + 1) * 16 ≤ 140737488355328) :
    Calls Tryz.prog 100 #[.slice (some ⟨g, 0, none⟩) n n, .int .i64 i, .slice (some ⟨h, 0, none⟩) 1 1] w
      fun e w' => Fresh w w' (rs.take i ++ r :: rs.drop i) e := by
  obtain ⟨i0, hi, hz0, hz1, hz2⟩ := info_parts infoR
  have HG := Lib.hid hg
  have HH := Lib.hid hh
  have HN := Lib.hid hrs
  clear hg hh hrs
  go_enter Tryz.func100, Tryz.ntmps100
  go_wp2_with (refine wpList_append_zeros encR_len (by decide) Tryz.underlying42 Tryz.underlying3 hi hz1 hz0 zeroR rfl (.tmp 34) (.tmp 39) rfl (by exact HG.out) 0 (m := n + 1 - i) rfl rfl ?c0 rfl ?c1 ?c2 ?c3 ?c4 ?c5 ?c6 ?_)
  case c0 => omega
  case c1 => omega
  case c2 => rw [HN.out]; omega
  case c3 => omega
  case c4 => omega
  case c5 => omega
  case c6 => rw [hz2]; omega
  intro W1 cap hW1 hc1 hc2 hB1 hsz
  rw [show i + (n + 1 - i) = n + 1 by omega] at hW1 hc1
  obtain ⟨Z, hZ⟩ : ∃ Z, Z = rs.take i ++ List.replicate (n + 1 - i + (cap - (n + 1))) ((0, 0) : Rg) := ⟨_, rfl⟩
  rw [← hZ] at hW1
  have H1 := Lib.hid hW1
  have HZ := Lib.hid hZ
  have B1 := Lib.hid hB1
  have C1 := Lib.hid (show n + 1 ≤ cap ∧ cap ≤ 9223372036854775807 from ⟨hc1, hc2⟩)
  have L1 := Lib.hid (show Z.length = cap by rw [hZ]; simp [HN.out]; omega)
  have HG1 := Lib.hid (below_keeps hB1 HG.out (heap_lt HG.out))
  have HH1 := Lib.hid (below_keeps hB1 HH.out (heap_lt HH.out))
  have GS := Lib.hid (show g ≠ w.heap.size ∧ h ≠ w.heap.size from ⟨Nat.ne_of_lt (heap_lt HG.out), Nat.ne_of_lt (heap_lt HH.out)⟩)
  have SZ := Lib.hid hsz
  clear hW1 hB1 hsz hZ
  rw [show i + (n + 1 - i) = n + 1 by omega]
  go_wp2_with (refine wpList_copy_at encR_len encR_one Tryz.underlying42 hi hz1 rfl (.tmp 43) (.tmp 44) 42 rfl (by exact H1.out) (ss := [r]) (by exact HH1.out) i 0 1 rfl rfl rfl rfl ?d1 ?d2 ?d3 ?_)
  case d1 => omega
  case d2 => rw [L1.out]; omega
  case d3 => exact Nat.le_refl _
  intro W2 hW2 hU2
  have H2 := Lib.hid (show RowR W2 w.heap.size (splice Z i [r]) from hW2)
  have U2 := Lib.hid hU2
  have HG2 := Lib.hid (hU2.keeps HG1.out GS.out.1)
  have L2 := Lib.hid (show (splice Z i [r]).length = cap by rw [splice_len _ _ _ (by rw [L1.out]; simp; omega), L1.out])
  clear hW2 hU2 HG1 HH1 H1
  go_wp2_with fail
  have f1 : IntKind.i64.wrap ((i : Int) + 1) = (i : Int) + 1 := IntWalk.i64_in _ (by omega)
  have f2 : ((i : Int) + 1).toNat = i + 1 := by omega
  have f3 : (0 : Int) ≤ (i : Int) + 1 := by omega
  have f4 : (i : Int) + 1 ≤ (n : Int) + 1 := by omega
  have f5 : ¬ cap = i + 1 := by omega
  have f6 : ¬ n = i := by omega
  have f8 : i ≤ n := by omega
  go_still_tail 8, (by kernel_rfl)
  change wpList _ _ _ _ _ W2.drew
  clear f1 f2 f3 f4 f5 f6 f8
  go_wp2_with (refine wpList_copy_at encR_len encR_one Tryz.underlying42 hi hz1 rfl (.tmp 50) (.tmp 53) 42 rfl (by exact H2.out) (ss := rs) (by exact HG2.out) (i + 1) i (n - i) rfl rfl rfl rfl ?e1 ?e2 ?e3 ?_)
  case e2 => rw [L2.out]; omega
  case e3 => rw [HN.out]; omega
  intro W3 hW3 hU3
  have H3 := Lib.hid hW3
  have U3 := Lib.hid hU3
  clear hW3 hU3
  go_wp2
  go_ret
  obtain ⟨zs, hzs, hlen⟩ := grow_rows (r := r) hin C1.out.1 HN.out HZ.out
  have hl : (rs.take i ++ r :: rs.drop i).length = n + 1 := by simp [HN.out]; omega
  exact ⟨cap, by rw [hl]; rfl, ⟨zs, by rw [← hzs]; exact H3.out, by rw [hl]; exact hlen⟩, C1.out.2,
    (Upd.onto ((Upd.onto B1.out U2.out (by rw [SZ.out]; omega) (by intro j h1 h2; omega)).drew) U3.out (Nat.le_trans (by rw [SZ.out]; omega) U2.out.size) (by intro j h1 h2; omega))⟩
end Go.Proofs.YtnneoeimgbemfaaGreat

/- DERIVED. slices.Insert and slices.Replace at ranges: one element put in the place of some, or none. -/
namespace Go.Proofs.YtnneoeimgbemfaaGreat
open Go.RowKit

/-- What a call that turns one slice leaves: a slice that reads as ys, in the old row or a new one. -/
def Repl (w : World) (og : Option Nat) (ys : List Rg) (e : Ending) (w' : World) : Prop :=
  ∃ v' og', e = .returned v' ∧ Sl w' v' og' ys ∧ (og' = og ∨ ∃ g, og' = some g ∧ w.heap.size ≤ g) ∧ Upd (fun j => og = some j) w w'

theorem Repl.ofHead {w w' : World} {g n cap : Nat} {ys : List Rg} {e : Ending} (he : e = .returned (.slice (some ⟨g, 0, none⟩) n cap)) (hn : n = ys.length) (hh : Head w' g ys cap) (hc : cap ≤ 9223372036854775807) (hu : Upd (fun k => k = g) w w') :
    Repl w (some g) ys e w' := ⟨_, some g, he, hh.sl hc hn, .inl rfl, hu.mono (fun _ _ x => by rw [x])⟩
theorem Repl.ofFresh {w w' : World} {og : Option Nat} {ys : List Rg} {e : Ending} (h : Fresh w w' ys e) : Repl w og ys e w' := by
  obtain ⟨cap, he, hh, hc, hb⟩ := h
  exact ⟨_, some w.heap.size, he, hh.sl hc rfl, .inr ⟨_, rfl, Nat.le_refl _⟩, (Upd.below hb).mono (fun i hi h => by omega)⟩

theorem insert_any (v : Value) (og : Option Nat) (xs : List Rg) (i h : Nat) (r : Rg) (w : World) (hs : Sl w v og xs) (hi : i ≤ xs.length) (hh : RowR w h [r]) (hne : og ≠ some h) (hm : (xs.length + 1) * 16 ≤ 140737488355328) :
    Calls Tryz.prog 100 #[v, .int .i64 i, .slice (some ⟨h, 0, none⟩) 1 1] w (Repl w og (xs.take i ++ r :: xs.drop i)) := by
  rcases hs with ⟨rfl, rfl, rfl⟩ | ⟨g, ys, rfl, rfl, hg, hl⟩
  · obtain rfl : i = 0 := by simpa using hi
    exact (insert_nil h r w hh).mono fun e w' hf => Repl.ofFresh hf
  · have hgh : g ≠ h := fun e => hne (by rw [e])
    have t1 : (xs ++ ys).take i = xs.take i := List.take_append_of_le_length hi
    have t2 : (xs ++ ys).take xs.length = xs := by rw [List.take_append_of_le_length (Nat.le_refl _), List.take_length]
    have hlen : xs.length + 1 = (xs.take i ++ r :: xs.drop i).length := by simp; omega
    by_cases hroom : 0 < ys.length
    · by_cases hin : i < xs.length
      · refine (insert_shift g h (xs ++ ys) r i xs.length (xs.length + ys.length) w hin (by omega) (by simp) hg hh hgh hl).mono fun e w' ⟨he, hd, hu⟩ => ?_
        rw [t1, t2] at hd
        exact Repl.ofHead he hlen hd hl hu
      · obtain rfl : i = xs.length := by omega
        refine (insert_end g h (xs ++ ys) r xs.length (xs.length + ys.length) w (by omega) (by simp) hg hh hl).mono fun e w' ⟨he, hd, hu⟩ => ?_
        rw [t2] at hd
        have e1 : xs.take xs.length ++ r :: xs.drop xs.length = xs ++ [r] := by simp
        rw [e1]
        exact Repl.ofHead he (by simp) hd hl hu
    · obtain rfl : ys = [] := List.eq_nil_of_length_eq_zero (by omega)
      simp only [List.append_nil, List.length_nil, Nat.add_zero] at hg ⊢
      by_cases hin : i < xs.length
      · exact (insert_grow g h xs r i xs.length w hin rfl hg hh hm).mono fun e w' hf => Repl.ofFresh hf
      · obtain rfl : i = xs.length := by omega
        have e1 : xs.take xs.length ++ r :: xs.drop xs.length = xs ++ [r] := by simp
        rw [e1]
        exact (insert_end_grow g h xs r xs.length w rfl hg hh hm).mono fun e w' hf => Repl.ofFresh hf

set_option maxRecDepth 100000 in
set_option maxHeartbeats 400000 in
theorem replace_insert_nil (h : Nat) (w : World) (og : Option Nat) (ys : List Rg)
    (hi : Calls Tryz.prog 100 #[.slice none 0 0, .int .i64 0, .slice (some ⟨h, 0, none⟩) 1 1] w (Repl w og ys)) :
    Calls Tryz.prog 85 #[.slice none 0 0, .int .i64 0, .int .i64 0, .slice (some ⟨h, 0, none⟩) 1 1] w (Repl w og ys) := by
  have HI := Lib.hid hi
  clear hi
  go_enter Tryz.func85, Tryz.ntmps85
  go_wp2_with fail
  refine HI.out.mono ?_
  rintro e w' ⟨v, og', rfl, h1, h2, h3⟩
  have HH := Lib.hid (show Repl w og ys (.returned v) w' from ⟨v, og', rfl, h1, h2, h3⟩)
  clear h1 h2 h3 HI
  go_wp2
  go_ret
  exact HH.out

set_option maxRecDepth 100000 in
set_option maxHeartbeats 400000 in
theorem replace_insert (g n cap : Nat) (i h : Nat) (w : World) (og : Option Nat) (ys : List Rg) (hin : i ≤ n) (hnc : n ≤ cap) (_hcap : cap ≤ 9223372036854775807)
    (hi : Calls Tryz.prog 100 #[.slice (some ⟨g, 0, none⟩) n cap, .int .i64 i, .slice (some ⟨h, 0, none⟩) 1 1] w (Repl w og ys)) :
    Calls Tryz.prog 85 #[.slice (some ⟨g, 0, none⟩) n cap, .int .i64 i, .int .i64 i, .slice (some ⟨h, 0, none⟩) 1 1] w (Repl w og ys) := by
  by_cases hci : cap = i
  · subst hci
    have HI := Lib.hid hi
    clear hi
    go_enter Tryz.func85, Tryz.ntmps85
    go_wp2_with fail
    refine HI.out.mono ?_
    rintro e w' ⟨v, og', rfl, h1, h2, h3⟩
    have HH := Lib.hid (show Repl w og ys (.returned v) w' from ⟨v, og', rfl, h1, h2, h3⟩)
    clear h1 h2 h3 HI
    go_wp2
    go_ret
    exact HH.out
  · have HI := Lib.hid hi
    clear hi
    go_enter Tryz.func85, Tryz.ntmps85
    go_wp2_with fail
    refine HI.out.mono ?_
    rintro e w' ⟨v, og', rfl, h1, h2, h3⟩
    have HH := Lib.hid (show Repl w og ys (.returned v) w' from ⟨v, og', rfl, h1, h2, h3⟩)
    clear h1 h2 h3 HI
    go_wp2
    go_ret
    exact HH.out

theorem replace_any (v : Value) (og : Option Nat) (xs : List Rg) (i k h : Nat) (r : Rg) (w : World) (hs : Sl w v og xs) (hi : i ≤ k) (hk : k ≤ xs.length) (hh : RowR w h [r]) (hne : og ≠ some h) (hm : (xs.length + 1) * 16 ≤ 140737488355328) :
    Calls Tryz.prog 85 #[v, .int .i64 i, .int .i64 k, .slice (some ⟨h, 0, none⟩) 1 1] w (Repl w og (xs.take i ++ r :: xs.drop k)) := by
  by_cases hik : i = k
  · subst hik
    have h1 := insert_any v og xs i h r w hs hk hh hne hm
    rcases hs with ⟨rfl, rfl, rfl⟩ | ⟨g, ys, rfl, rfl, hg, hl⟩
    · obtain rfl : i = 0 := by simpa using hk
      exact replace_insert_nil h w _ _ h1
    · exact replace_insert _ _ _ i h w _ _ hk (by omega) hl h1
  · rcases hs with ⟨rfl, rfl, rfl⟩ | ⟨g, ys, rfl, rfl, hg, hl⟩
    · simp at hk
      omega
    · have hgh : g ≠ h := fun e => hne (by rw [e])
      have t1 : (xs ++ ys).take i = xs.take i := List.take_append_of_le_length (by omega)
      have t2 : (xs ++ ys).take xs.length = xs := by rw [List.take_append_of_le_length (Nat.le_refl _), List.take_length]
      by_cases hkn : k < xs.length
      · refine (replace_mid g h (xs ++ ys) r i k xs.length (xs.length + ys.length) w (by omega) hkn (by omega) (by simp) hg hh hgh hl).mono fun e w' ⟨he, hd, hu⟩ => ?_
        rw [t1, t2] at hd
        exact Repl.ofHead he (by simp; omega) hd hl hu
      · obtain rfl : k = xs.length := by omega
        refine (replace_end g h (xs ++ ys) r i xs.length (xs.length + ys.length) w (by omega) (by omega) (by simp) hg hh hgh hl).mono fun e w' ⟨he, hd, hu⟩ => ?_
        rw [t1] at hd
        have e1 : xs.take i ++ r :: xs.drop xs.length = xs.take i ++ [r] := by simp
        rw [e1]
        exact Repl.ofHead he (by simp; omega) hd hl hu
end Go.Proofs.YtnneoeimgbemfaaGreat

/- DERIVED. Walk of slices.Delete at ranges: some from the front on, not all. -/
namespace Go.Proofs.YtnneoeimgbemfaaGreat
open Go.RowKit

theorem delete_rows {rs : List Rg} {n len cap : Nat} (hn : n < len) (hc : len ≤ cap) (hrs : rs.length = cap) :
    ∃ zs, splice (splice rs 0 ((rs.drop n).take (len - n))) (len - n) (List.replicate n (0, 0)) = (rs.take len).drop n ++ zs ∧ len - n + zs.length = cap := by
  have ml : ((rs.drop n).take (len - n)).length = len - n := by rw [List.length_take, List.length_drop]; omega
  have l1 : (splice rs 0 ((rs.drop n).take (len - n))).length = cap := by rw [splice_len _ _ _ (by rw [ml]; omega), hrs]
  have l2 : (splice (splice rs 0 ((rs.drop n).take (len - n))) (len - n) (List.replicate n ((0, 0) : Rg))).length = cap := by rw [splice_len _ _ _ (by rw [l1]; simp; omega), l1]
  have t1 : (splice rs 0 ((rs.drop n).take (len - n))).take (len - n) = (rs.take len).drop n := by
    have := splice_take_end (L := rs) (c := (rs.drop n).take (len - n)) (o := 0) (by omega)
    rw [ml, Nat.zero_add] at this
    rw [this, List.take_zero, List.nil_append, List.drop_take]
  refine ⟨(splice (splice rs 0 ((rs.drop n).take (len - n))) (len - n) (List.replicate n ((0, 0) : Rg))).drop (len - n), ?_, ?_⟩
  · rw [← t1, ← splice_take_lt (L := splice rs 0 ((rs.drop n).take (len - n))) (c := List.replicate n ((0, 0) : Rg)) (o := len - n) (m := len - n) (Nat.le_refl _) (by rw [l1]; omega), List.take_append_drop]
  · rw [List.length_drop, l2]; omega

set_option maxRecDepth 100000 in
set_option maxHeartbeats 400000 in
theorem delete_front (g : Nat) (rs : List Rg) (n len cap : Nat) (w : World) (hn0 : 0 < n) (hn : n < len) (hc : len ≤ cap) (hrs : rs.length = cap) (hg : RowR w g rs) (_hm : cap ≤ 9223372036854775807) :
    Calls Tryz.prog 98 #[.slice (some ⟨g, 0, none⟩) len cap, .int .i64 0, .int .i64 n] w
      fun e w' => e = .returned (.slice (some ⟨g, 0, none⟩) (len - n) cap) ∧ Head w' g ((rs.take len).drop n) cap ∧ Upd (fun k => k = g) w w' := by
  obtain ⟨i0, hi, hz0, hz1, hz2⟩ := info_parts infoR
  have HG := Lib.hid hg
  have HN := Lib.hid hrs
  clear hg hrs
  go_enter Tryz.func98, Tryz.ntmps98
  go_wp2_with fail
  have f6 : ¬ cap = n := by omega
  have f7 : n ≤ len := by omega
  have f8 : (n : Int) ≤ (len : Int) := by omega
  go_still_tail 6, (by kernel_rfl)
  change wpList _ _ _ _ _ w.drew
  clear f6 f7 f8
  go_wp2_with (refine wpList_append_at encR_len encR_one Tryz.underlying42 hi hz1 rfl (.tmp 22) (.tmp 25) rfl (by exact HG.out) (by exact HG.out) 0 n rfl rfl rfl rfl ?c1 ?c2 ?c3 ?_)
  case c1 => omega
  case c2 => rw [HN.out]; omega
  case c3 => rw [HN.out]; omega
  intro W1 hW1 hU1
  try simp only [Nat.zero_add, Nat.add_zero] at hW1
  have H1 := Lib.hid hW1
  have U1 := Lib.hid hU1
  have L1 := Lib.hid (show (splice rs 0 ((rs.drop n).take (len - n))).length = cap by rw [splice_len _ _ _ (by rw [HN.out, List.length_take, List.length_drop, HN.out]; omega), HN.out])
  clear hW1 hU1
  go_wp2_with (refine wpList_clear_at encR_len encR_one Tryz.underlying42 hi hz0 zeroR rfl (.tmp 31) rfl (by exact H1.out) (len - n) (len - (len - n)) rfl rfl ?d3 ?_)
  case d3 => rw [L1.out]; omega
  intro W2 hW2 hU2
  rw [show len - (len - n) = n by omega] at hW2
  have H2 := Lib.hid hW2
  have U2 := Lib.hid hU2
  clear hW2 hU2
  go_wp2
  go_ret
  refine ⟨rfl, ?_, ((Upd.refl _ w).drew.then U1.out).then U2.out⟩
  obtain ⟨zs, hzs, hl⟩ := delete_rows hn hc HN.out
  exact ⟨zs, by rw [← hzs]; exact H2.out, by rw [List.length_drop, List.length_take, HN.out, Nat.min_eq_left hc]; exact hl⟩
end Go.Proofs.YtnneoeimgbemfaaGreat

/- DERIVED. Plain: lists of ranges: what each call makes of them. -/
namespace Go.Proofs.YtnneoeimgbemfaaGreat
open Go.RowKit

def hasP (n : Nat) (r : Rg) : Bool := decide (r.1 ≤ n) && decide (n < r.2)
def meetP (lo hi : Nat) (r : Rg) : Bool := decide (r.1 < hi) && decide (lo < r.2)
theorem take_any {p : Rg → Bool} {xs : List Rg} {k : Nat} {r : Rg} (h : xs[k]? = some r) : (xs.take (k + 1)).any p = ((xs.take k).any p || p r) := by
  rw [List.take_add_one, h]
  simp
def trimL (most : Int) (xs : List Rg) : List Rg := xs.drop (xs.length - most.toNat)
def mostOf (m : Int) : Int := if m ≤ 1 then 1 else m
theorem mostOf_pos (m : Int) : 1 ≤ mostOf m := by unfold mostOf; split <;> omega
/-- Where the search for the first range that meets or touches ends; and the one behind the last. -/
def iOf (xs : List Rg) (lo : Nat) : Nat := (xs.takeWhile (fun x => decide (x.2 < lo))).length
def kOf (xs : List Rg) (i hi : Nat) : Nat := i + ((xs.drop i).takeWhile (fun x => decide (x.1 ≤ hi))).length
def fuse (r : Rg) (m : List Rg) : Rg := m.foldl (fun r x => (min r.1 x.1, max r.2 x.2)) r
def addRaw (xs : List Rg) (lo hi : Nat) : List Rg :=
  xs.take (iOf xs lo) ++ fuse (lo, hi) ((xs.take (kOf xs (iOf xs lo) hi)).drop (iOf xs lo)) :: xs.drop (kOf xs (iOf xs lo) hi)
def addL (most : Int) (xs : List Rg) (lo hi : Nat) : List Rg := trimL most (addRaw xs lo hi)
theorem tw_le (p : Rg → Bool) (xs : List Rg) : (xs.takeWhile p).length ≤ xs.length := (List.takeWhile_prefix p).length_le
theorem tw_lt {p : Rg → Bool} : ∀ {xs : List Rg} {j : Nat}, j < (xs.takeWhile p).length → ∃ r, xs[j]? = some r ∧ p r = true
  | [], j, h => by simp at h
  | x :: xs, j, h => by
    cases hp : p x with
    | true =>
      rw [List.takeWhile_cons_of_pos hp] at h
      cases j with
      | zero => exact ⟨x, rfl, hp⟩
      | succ j =>
        obtain ⟨r, h1, h2⟩ := tw_lt (xs := xs) (j := j) (by simpa using h)
        exact ⟨r, by simpa using h1, h2⟩
    | false =>
      rw [List.takeWhile_cons_of_neg (by simp [hp])] at h
      simp at h
theorem tw_end {p : Rg → Bool} : ∀ {xs : List Rg} {r : Rg}, xs[(xs.takeWhile p).length]? = some r → p r = false
  | [], r, h => by simp at h
  | x :: xs, r, h => by
    cases hp : p x with
    | true =>
      rw [List.takeWhile_cons_of_pos hp] at h
      simp only [List.length_cons, List.getElem?_cons_succ] at h
      exact tw_end h
    | false =>
      rw [List.takeWhile_cons_of_neg (by simp [hp])] at h
      simp at h
      subst h
      exact hp
theorem iOf_lt {xs : List Rg} {lo j : Nat} (h : j < iOf xs lo) : ∃ r, xs[j]? = some r ∧ r.2 < lo := by
  obtain ⟨r, h1, h2⟩ := tw_lt h
  exact ⟨r, h1, by simpa using h2⟩
theorem iOf_end {xs : List Rg} {lo : Nat} {r : Rg} (h : xs[iOf xs lo]? = some r) : lo ≤ r.2 := by
  have := tw_end h
  simpa using this
theorem iOf_le (xs : List Rg) (lo : Nat) : iOf xs lo ≤ xs.length := tw_le _ _
theorem kOf_le {xs : List Rg} {i : Nat} (hi : Nat) (h : i ≤ xs.length) : kOf xs i hi ≤ xs.length := by
  unfold kOf
  have := tw_le (fun x => decide (x.1 ≤ hi)) (xs.drop i)
  rw [List.length_drop] at this
  omega
theorem kOf_ge (xs : List Rg) (i hi : Nat) : i ≤ kOf xs i hi := by unfold kOf; omega
theorem kOf_lt {xs : List Rg} {i hi j : Nat} (h1 : i ≤ j) (h : j < kOf xs i hi) : ∃ r, xs[j]? = some r ∧ r.1 ≤ hi := by
  unfold kOf at h
  obtain ⟨r, h2, h3⟩ := tw_lt (p := fun x => decide (x.1 ≤ hi)) (xs := xs.drop i) (j := j - i) (by omega)
  rw [List.getElem?_drop, show i + (j - i) = j by omega] at h2
  exact ⟨r, h2, by simpa using h3⟩
theorem kOf_end {xs : List Rg} {i hi : Nat} {r : Rg} (h : xs[kOf xs i hi]? = some r) : hi < r.1 := by
  unfold kOf at h
  rw [← List.getElem?_drop] at h
  have := tw_end h
  simpa using this
theorem fuse_step {r x : Rg} {xs : List Rg} {i k : Nat} (hik : i ≤ k) (hx : xs[k]? = some x) :
    fuse r ((xs.take (k + 1)).drop i) = (min (fuse r ((xs.take k).drop i)).1 x.1, max (fuse r ((xs.take k).drop i)).2 x.2) := by
  have hk : k < xs.length := (List.getElem?_eq_some_iff.1 hx).1
  rw [List.take_add_one, hx, List.drop_append_of_le_length (by rw [List.length_take]; omega)]
  simp [fuse]
/-- Rising ranges, none touching another, of numbers that may be. -/
def Norm (xs : List Rg) : Prop := (∀ r ∈ xs, r.1 < r.2 ∧ r.2 ≤ 4611686018427387904) ∧ xs.Pairwise (fun a b => a.2 < b.1)
theorem Norm.at {xs : List Rg} (h : Norm xs) {k : Nat} {r : Rg} (hr : xs[k]? = some r) : r.1 < r.2 ∧ r.2 ≤ 4611686018427387904 := h.1 r (List.mem_of_getElem? hr)
def topL (xs : List Rg) : Nat := match xs.getLast? with | some r => r.2 - 1 | none => 0
def someL (xs : List Rg) : Bool := match xs with | [] => false | _ => true
def cntL (xs : List Rg) : Nat := (xs.map fun r => r.2 - r.1).sum
theorem cntL_take {xs : List Rg} {k : Nat} {r : Rg} (h : xs[k]? = some r) : cntL (xs.take (k + 1)) = cntL (xs.take k) + (r.2 - r.1) := by
  rw [List.take_add_one, h]
  simp [cntL]
theorem cntL_room : ∀ (xs : List Rg) (a : Nat), Norm xs → (∀ r ∈ xs, a ≤ r.1) → a ≤ 4611686018427387904 → cntL xs + a ≤ 4611686018427387904
  | [], a, _, _, ha => by simpa [cntL] using ha
  | r :: xs, a, hn, hl, _ => by
    obtain ⟨h1, h2⟩ := List.pairwise_cons.1 hn.2
    have hr := hn.1 r (List.mem_cons_self ..)
    have := cntL_room xs r.2 ⟨fun x hx => hn.1 x (List.mem_cons_of_mem _ hx), h2⟩ (fun x hx => Nat.le_of_lt (h1 x hx)) hr.2
    have ha := hl r (List.mem_cons_self ..)
    have : cntL (r :: xs) = r.2 - r.1 + cntL xs := by simp [cntL]
    omega
theorem Norm.take {xs : List Rg} (h : Norm xs) (k : Nat) : Norm (xs.take k) :=
  ⟨fun r hr => h.1 r (List.mem_of_mem_take hr), h.2.sublist (List.take_sublist _ _)⟩
theorem cntL_le {xs : List Rg} (h : Norm xs) : cntL xs ≤ 4611686018427387904 := by
  have := cntL_room xs 0 h (fun _ _ => Nat.zero_le _) (by omega)
  omega
/-- From where, and up to where: what Gap's loop leaves. -/
def gapF : List Rg → Nat → Nat → Nat × Nat
  | [], f, t => (f, t)
  | r :: rs, f, t => if r.2 ≤ f then gapF rs f t else if f < r.1 then (f, min t r.1) else gapF rs r.2 t
def gapL (xs : List Rg) (f t : Nat) : Rg × Bool := if (gapF xs f t).2 ≤ (gapF xs f t).1 then ((0, 0), false) else (gapF xs f t, true)
theorem drop_at {xs : List Rg} {k : Nat} {r : Rg} (h : xs[k]? = some r) : xs.drop k = r :: xs.drop (k + 1) := by
  obtain ⟨h1, h2⟩ := List.getElem?_eq_some_iff.1 h
  rw [← h2]
  exact List.drop_eq_getElem_cons h1
def cut1 (lo hi : Nat) (r : Rg) : List Rg :=
  if hi ≤ lo ∨ r.2 ≤ lo ∨ hi ≤ r.1 then [r] else (if r.1 < lo then [(r.1, lo)] else []) ++ (if hi < r.2 then [(hi, r.2)] else [])
def cutRaw (lo hi : Nat) (xs : List Rg) : List Rg := xs.flatMap (cut1 lo hi)
theorem cut1_len (lo hi : Nat) (r : Rg) : (cut1 lo hi r).length ≤ 2 := by
  unfold cut1
  repeat' split
  all_goals simp
theorem cutRaw_take {lo hi : Nat} {xs : List Rg} {k : Nat} {r : Rg} (h : xs[k]? = some r) : cutRaw lo hi (xs.take (k + 1)) = cutRaw lo hi (xs.take k) ++ cut1 lo hi r := by
  rw [List.take_add_one, h]
  simp [cutRaw]
theorem cutRaw_len (lo hi : Nat) : ∀ xs : List Rg, (cutRaw lo hi xs).length ≤ 2 * xs.length
  | [] => by simp [cutRaw]
  | r :: xs => by
    have h1 := cut1_len lo hi r
    have h2 := cutRaw_len lo hi xs
    have : (cutRaw lo hi (r :: xs)).length = (cut1 lo hi r).length + (cutRaw lo hi xs).length := by simp [cutRaw]
    simp only [List.length_cons]
    omega
def fromR (f : Nat) (r : Rg) : Nat := if r.1 ≤ f ∧ f < r.2 then r.2 else f
def endR (f : Nat) (e : Nat) (r : Rg) : Nat := if f < r.1 then min e r.1 else e
def gapR (xs : List Rg) (f t : Nat) : Rg × Bool :=
  if t ≤ xs.foldl fromR f then ((0, 0), false) else ((xs.foldl fromR f, xs.foldl (endR (xs.foldl fromR f)) t), true)
theorem foldl_take {β : Type} (g : β → Rg → β) (b : β) {xs : List Rg} {k : Nat} {r : Rg} (h : xs[k]? = some r) : (xs.take (k + 1)).foldl g b = g ((xs.take k).foldl g b) r := by
  rw [List.take_add_one, h]
  simp
theorem from_lt {xs : List Rg} (h : Norm xs) : ∀ {f : Nat}, f < 18446744073709551616 → xs.foldl fromR f < 18446744073709551616 := by
  have h1 := h.1
  clear h
  induction xs with
  | nil => intro f hf; exact hf
  | cons r xs ih =>
    intro f hf
    refine ih (fun x hx => h1 x (List.mem_cons_of_mem _ hx)) (f := fromR f r) ?_
    have := h1 r (List.mem_cons_self ..)
    unfold fromR
    split <;> omega
theorem end_le (f : Nat) (xs : List Rg) : ∀ e : Nat, xs.foldl (endR f) e ≤ e := by
  induction xs with
  | nil => intro e; exact Nat.le_refl _
  | cons r xs ih =>
    intro e
    refine Nat.le_trans (ih (endR f e r)) ?_
    unfold endR
    split <;> omega
structure Ra where
  out : List Rg
  x : Rg
  done : Bool
def Ra.step (s : Ra) (r : Rg) : Ra :=
  if r.2 < s.x.1 then ⟨s.out ++ [r], s.x, s.done⟩
  else if s.x.2 < r.1 then ⟨(if s.done then s.out else s.out ++ [s.x]) ++ [r], s.x, true⟩
  else ⟨s.out, (min s.x.1 r.1, max s.x.2 r.2), s.done⟩
def raOf (lo hi : Nat) (xs : List Rg) : Ra := xs.foldl Ra.step ⟨[], (lo, hi), false⟩
def addR (lo hi : Nat) (xs : List Rg) : List Rg := if (raOf lo hi xs).done then (raOf lo hi xs).out else (raOf lo hi xs).out ++ [(raOf lo hi xs).x]
theorem raOf_take {lo hi : Nat} {xs : List Rg} {k : Nat} {r : Rg} (h : xs[k]? = some r) : raOf lo hi (xs.take (k + 1)) = (raOf lo hi (xs.take k)).step r := by
  rw [raOf, List.take_add_one, h]
  simp [raOf]
theorem Ra.step_len (s : Ra) (r : Rg) : (s.step r).out.length ≤ s.out.length + 2 := by
  unfold Ra.step
  repeat' split
  all_goals simp
theorem raOf_len (lo hi : Nat) : ∀ xs : List Rg, (raOf lo hi xs).out.length ≤ 2 * xs.length := by
  have h : ∀ (xs : List Rg) (s : Ra), (xs.foldl Ra.step s).out.length ≤ s.out.length + 2 * xs.length := by
    intro xs
    induction xs with
    | nil => intro s; simp
    | cons r xs ih =>
      intro s
      have h1 := ih (s.step r)
      have h2 := s.step_len r
      simp only [List.foldl_cons, List.length_cons]
      omega
  intro xs
  have := h xs ⟨[], (lo, hi), false⟩
  simpa [raOf] using this
end Go.Proofs.YtnneoeimgbemfaaGreat
