/- DERIVED. Walks of outbuf's part; slices.Clone of bytes. -/
import Derived.Test.YtkebjfaphmamjaaAll
import Derived.Test.YtkebjfaphmamjaaOutM
namespace Go.Proofs.Ytkebjfaphmamjaa
open Go.RowKit

theorem infoB : (Try.prog.info? 5).map (fun i => (i.zero, i.size, i.bytes)) = some (some (.int .u8 0), 1, 1) := by kernel_rfl
theorem zeroB : (Value.int .u8 0).cells.toList = encB 0 := rfl
set_option maxRecDepth 100000 in
set_option maxHeartbeats 1000000 in
theorem cloneB_any (v : Value) (xs : List Nat) {B : Nat} (w : World) (h : Vw encB w B v xs) (hB : B ≤ w.heap.size) (hl : xs.length ≤ 1000000000) :
    Calls Try.prog 25 #[v] w fun e w' => ∃ v' og', e = .returned v' ∧ SlG encB 5 w' v' og' xs ∧ (∀ g, og' = some g → w.heap.size ≤ g) ∧ Below w.heap.size w w' := by
  obtain ⟨i0, hi0, hz0, hz1, hz2'⟩ := info_parts infoB
  have hnil := Lib.run_eql_slice_nil (P := Try.prog) w 28 5
  obtain ⟨oa, cap, rfl, hc1, hc2⟩ := h.shape
  have H := Lib.hid h
  have HL := Lib.hid hl
  clear h hl
  generalize hn : xs.length = len at *
  have HN := Lib.hid hn
  cases oa with
  | none =>
    have hx : xs = [] := by
      obtain ⟨_, _, h1, _, _, h4⟩ := H.out
      cases h1
      rcases h4 with h4 | ⟨_, _, h5, _⟩
      · exact h4
      · cases h5
    subst hx
    clear hn
    go_enter Try.func25, Try.ntmps25
    go_wp2
    go_ret
    exact ⟨_, none, rfl, SlG.nil _, by simp, Below.refl _ _⟩
  | some ad =>
    clear hn
    go_enter Try.func25, Try.ntmps25
    go_wp2_with (refine wpList_pushV encB_len encB_one Try.underlying28 hi0 hz1 hz0 zeroB rfl (.tmp 5) (.tmp 6) rfl (by exact SlG.fresh0) (by exact H.out.below (((Below.refl _ _).alloc (Nat.le_refl _) _).mono hB)) rfl rfl (by rw [HN.out, hz2']; have := HL.out; simp; omega) (by rw [HN.out]; have := HL.out; simp; omega) ?_)
    intro W1 v1 og1 hs1 ho1 hu1
    have H1 := Lib.hid hs1
    have HG := Lib.hid (og_new (B := w.heap.size) (fun g e => by cases e; exact Nat.le_refl _) (by simp) ho1)
    have HB1 := Lib.hid (show Below w.heap.size w W1 from Upd.belowOf ((Below.refl _ _).alloc (Nat.le_refl _) _) hu1 (fun j hj e => by cases e; omega))
    clear hs1 ho1 hu1
    go_wp2
    go_ret
    exact ⟨_, og1, rfl, H1.out, HG.out, HB1.out⟩

set_option maxRecDepth 100000 in
set_option maxHeartbeats 1000000 in
theorem opart_nil (b : Nat) (s : OS) (fp : Nat → Prop) (limit t : Nat) (w : World) (h : OAt w b s fp) (hlim : limit < 18446744073709551616) (hys : s.ys = []) (ht : max s.sent (min limit s.B.length) = t) :
    Calls Try.prog 22 #[.pointer (some ⟨b, 0, none⟩), .int .u64 limit] w fun e w' => e = .returned (.tuple #[.int .u64 s.sent, .int .u64 t]) ∧ Below w.heap.size w w' := by
  obtain ⟨vb, ob, c, oc, d, od, hO, hfp⟩ := h
  have c5 : w.cell? ⟨b, 5, none⟩ = some (.pointer (some ⟨d, 0, none⟩)) := (cell_at hO.blk 5).trans rfl
  have HO := Lib.hid hO
  have hls := hO.ok.sent
  have hll := hO.ok.len
  have HY := Lib.hid hys
  have HC := Lib.hid (show ∀ W, Below w.heap.size w W → W.cell? ⟨b, 2, none⟩ = some (.int .u64 s.B.length) ∧ W.cell? ⟨b, 3, none⟩ = some (.int .u64 s.sent) from fun W hb => by
    have hk := below_keeps hb hO.blk (heap_lt hO.blk)
    exact ⟨(cell_at hk 2).trans rfl, (cell_at hk 3).trans rfl⟩)
  clear hO hfp hys
  generalize s.sent = sent at *
  generalize s.B.length = len at *
  go_enter Try.func22, Try.ntmps22
  go_wp2_with fail
  refine (all_any d many od s.ys _ (by exact HO.out.sy) (by rw [HY.out]; simp)).mono ?_
  rw [HY.out]
  rintro e w1 ⟨v, og, rfl, hs, hnew, hb⟩
  obtain ⟨oa, cap, rfl, hc1, hc2⟩ := hs.shape
  have HB := Lib.hid hb
  obtain ⟨c2, c3⟩ := HC.out _ hb
  clear hs hb hnew c5
  simp only [List.length_nil] at *
  go_wp2_with fail
  go_loopw [14] (fun i wr => i = .int .i64 0 ∧ wr = w1) (fun _ _ => 0)
  case atStart => exact ⟨rfl, rfl⟩
  case round =>
    obtain ⟨rfl, rfl⟩ := hrel
    rcases (by omega : ((limit < len ∧ sent < limit ∧ t = limit) ∨ (limit < len ∧ ¬ sent < limit ∧ t = sent) ∨ (len < limit ∧ sent < len ∧ t = len) ∨ (len < limit ∧ ¬ sent < len ∧ t = sent)) ∨ (limit = len ∧ sent < len ∧ t = len) ∨ (limit = len ∧ ¬ sent < len ∧ t = sent)) with (⟨q1, q2, q3⟩ | ⟨q1, q2, q3⟩ | ⟨q1, q2, q3⟩ | ⟨q1, q2, q3⟩) | ⟨q1, q2, q3⟩ | ⟨q1, q2, q3⟩
    all_goals subst q3
    all_goals try subst q1
    all_goals clear ht
    all_goals go_wp2_with fail
    all_goals go_quiet (fail)
    all_goals go_wp2_with fail
    all_goals go_ret2
    all_goals exact ⟨rfl, below_drewN HB.out _⟩
end Go.Proofs.Ytkebjfaphmamjaa
