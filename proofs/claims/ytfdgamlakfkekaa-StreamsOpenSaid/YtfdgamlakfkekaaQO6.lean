/- DERIVED. Walks of outbuf's readers and its New. -/
import Derived.Deep.DeepCutAuto
import Derived.Laws.ResultCell
import Derived.Deep.RegionWith
import Derived.Deep.CutBlock
import Derived.OwnWalk
import Derived.Test.YtfdgamlakfkekaaQO3
import Derived.Test.YtfdgamlakfkekaaQO4
import Derived.Test.YtfdgamlakfkekaaQO5
set_option linter.all false
namespace Go.Proofs.Ytfdgamlakfkekaa
open Go.RowKit

theorem SetAt.drew {w : World} {b : Nat} {m : Int} {og : Option Nat} {xs : List Rg} (h : SetAt w b m og xs) : SetAt w.drew b m og xs := h.below (Below.refl _ _).drew
theorem OAt.bd {w : World} {b : Nat} {s : OS} {fp : Nat → Prop} (h : OAt w b s fp) : s.B.length ≤ 1099511627776 ∧ s.base ≤ s.B.length ∧ s.sent ≤ s.B.length := ⟨h.ok.len, h.ok.base, h.ok.sent⟩
theorem OAt.drewN {w : World} {b : Nat} {s : OS} {fp : Nat → Prop} (h : OAt w b s fp) (n : Nat) : OAt (w.drewN n) b s fp := h.below (below_drewN (Below.refl _ _) n)

set_option maxRecDepth 100000 in
set_option maxHeartbeats 1000000 in
theorem onew_any (w : World) : Calls Try.prog 75 #[] w fun e w' => ∃ b fp, e = .returned (.pointer (some ⟨b, 0, none⟩)) ∧ OAt w' b OS.zero fp ∧ (∀ k, fp k → w.heap.size ≤ k) ∧ Below w.heap.size w w' := by
  go_enter Try.func75, Try.ntmps75
  go_wp2_with fail
  refine (snew_any 1048576 _).mono ?_
  rintro e w1 ⟨c, rfl, hc, h1, hb1⟩
  have H1 := Lib.hid h1
  have HB1 := Lib.hid hb1
  clear h1 hb1
  go_wp2_with fail
  refine (snew_any 1048576 _).mono ?_
  rintro e w2 ⟨d, rfl, hd, h2, hb2⟩
  have H2 := Lib.hid h2
  have HB2 := Lib.hid hb2
  clear h2 hb2
  go_wp2_with fail
  go_ret
  have s1 := H1.out.lt
  have s2 := H2.out.lt
  have z1 := HB1.out.size
  have z2 := HB2.out.size
  have hA := (Below.refl w2.heap.size w2).alloc (Nat.le_refl _) (.cells #[.slice none 0 0, .int .u64 0, .int .u64 0, .int .u64 0, .pointer (some ⟨c, 0, none⟩), .pointer (some ⟨d, 0, none⟩), .bool false, .bool false, .bool false, .bool false] 150)
  have c1 := s1.1
  have c2 := s2.1
  refine ⟨w2.heap.size, _, rfl, ⟨.slice none 0 0, none, c, none, d, none, ⟨alloc_at _ _, SlO.nil _ _ _, (H1.out.below HB2.out).below hA, H2.out.below hA, OS.zero_ok, ⟨by omega, by simp, by simp, by simp⟩, ⟨by omega, by omega, by simp, by simp⟩, ⟨by simp, by simp, by simp, by simp⟩⟩, rfl⟩, ?_, below_call HB1.out z1 (below_call HB2.out z2 hA)⟩
  rintro k (rfl | rfl | rfl | q | q | q)
  · omega
  · exact hc
  · omega
  · cases q
  · cases q
  · cases q

set_option maxHeartbeats 1000000 in
theorem osent_q (b : Nat) (s : OS) (fp : Nat → Prop) (w : World) (h : OAt w b s fp) : Calls Try.prog 78 #[.pointer (some ⟨b, 0, none⟩)] w fun e w' => e = .returned (.int .u64 s.sent) ∧ ∃ n, w' = w.drewN n := by
  obtain ⟨_, _, c, _⟩ := h.cells
  go_enter Try.func78, Try.ntmps78
  go_wp2_with fail
  go_ret
  exact ⟨rfl, 0, rfl⟩
set_option maxRecDepth 100000 in
set_option maxHeartbeats 1000000 in
theorem oend_q (b : Nat) (s : OS) (fp : Nat → Prop) (w : World) (h : OAt w b s fp) : Calls Try.prog 93 #[.pointer (some ⟨b, 0, none⟩)] w fun e w' => e = .returned (.bool s.ende) ∧ ∃ n, w' = w.drewN n := by
  obtain ⟨_, _, _, c6, c7, c8, c9⟩ := h.cells
  unfold OS.ende
  generalize s.fi = fi at *
  generalize s.es = es at *
  generalize s.ea = ea at *
  generalize s.el = el at *
  clear h
  cases fi
  all_goals cases ea
  all_goals cases es
  all_goals cases el
  all_goals go_enter Try.func93, Try.ntmps93
  all_goals go_wp2_with fail
  all_goals go_ret
  all_goals exact ⟨rfl, 0, rfl⟩
set_option maxRecDepth 100000 in
set_option maxHeartbeats 1000000 in
theorem oroom_q (b : Nat) (s : OS) (fp : Nat → Prop) (w : World) (h : OAt w b s fp) (hr : s.B.length ≤ s.base + 2048) : Calls Try.prog 72 #[.pointer (some ⟨b, 0, none⟩)] w fun e w' => e = .returned (.int .i64 s.room) ∧ ∃ n, w' = w.drewN n := by
  obtain ⟨c1, c2, _, c6, _⟩ := h.cells
  obtain ⟨h1, h2, _⟩ := h.bd
  unfold OS.room
  generalize s.fi = fi at *
  generalize s.B.length = len at *
  generalize s.base = base at *
  clear h
  obtain ⟨g, hg, hg2⟩ : ∃ g : Nat, (len : Int) - base = (g : Int) ∧ len - base = g := ⟨len - base, by omega, rfl⟩
  obtain ⟨r, hr2, hr3⟩ : ∃ r : Nat, (2048 : Int) - (g : Int) = (r : Int) ∧ 2048 - g = r := ⟨2048 - g, by omega, rfl⟩
  rw [hg2, hr3]
  clear hg2 hr3
  have hgb : g ≤ 2048 := by omega
  cases fi
  · go_enter Try.func72, Try.ntmps72
    go_wp2_with fail
    go_quiet (fail)
    go_wp2_with fail
    go_ret
    exact ⟨rfl, _, rfl⟩
  · go_enter Try.func72, Try.ntmps72
    go_wp2_with fail
    go_ret
    exact ⟨rfl, 0, rfl⟩
end Go.Proofs.Ytfdgamlakfkekaa

/- DERIVED. The buffer of bytes that go, in memory: what its calls turn. -/
namespace Go.Proofs.Ytfdgamlakfkekaa
open Go.RowKit

/-- From a beginning on: the buffer is as s, its blocks are those of the beginning, or new. -/
def OM (w0 w : World) (fp : Nat → Prop) (b : Nat) (s : OS) : Prop := ∃ fp', OAt w b s fp' ∧ Went fp fp' w0 w
theorem OM.refl {w : World} {fp : Nat → Prop} {b : Nat} {s : OS} (h : OAt w b s fp) : OM w w fp b s := ⟨fp, h, Went.refl _ _⟩
theorem OM.later {w0 w w' : World} {fp : Nat → Prop} {b : Nat} {s : OS} (h : OM w0 w fp b s) (hb : Below w.heap.size w w') : OM w0 w' fp b s := by
  obtain ⟨fp', h1, h2⟩ := h
  exact ⟨fp', h1.below hb, h2.later hb⟩
theorem OM.drew {w0 w : World} {fp : Nat → Prop} {b : Nat} {s : OS} (h : OM w0 w fp b s) : OM w0 w.drew fp b s := h.later (Below.refl _ _).drew
theorem OM.drewN {w0 w : World} {fp : Nat → Prop} {b : Nat} {s : OS} (h : OM w0 w fp b s) (n : Nat) : OM w0 (w.drewN n) fp b s := h.later (below_drewN (Below.refl _ _) n)
theorem om_turnD {w0 w w' : World} {fp : Nat → Prop} {b : Nat} {s : OS} {vb : Value} {ob : Option Nat} {c : Nat} {oc : Option Nat} {d : Nat} {od : Option Nat} {zs : List Rg} (h : OutAt w b s vb ob c oc d od) (hw : Went fp (OFp b c d ob oc od) w0 w) (t : Turned w d many od zs w') (hn : Norm zs) (hl : zs.length ≤ 100000) :
    OM w0 w' fp b { s with ys := zs } := by
  obtain ⟨od', h1, h2, h3⟩ := t
  obtain ⟨a1, a2, a3, a4⟩ := h.cd
  obtain ⟨b1, b2, b3, b4⟩ := h.bcd
  obtain ⟨e1, e2, e3, e4⟩ := h.obs
  have lt := h.lt
  have hnew : ∀ g, od' = some g → od = some g ∨ w.heap.size ≤ g := by
    intro g hg
    rcases h2 with rfl | rfl | ⟨g', rfl, h4⟩
    · exact .inl hg
    · cases hg
    · cases hg
      exact .inr h4
  refine ⟨OFp b c d ob oc od', ⟨vb, ob, c, oc, d, od', ⟨h3.keeps h.blk ?_, h.row.keeps h3 ?_, h.sx.keeps h3 ?_ ?_, h1, ⟨h.ok.len, h.ok.base, h.ok.sent, h.ok.nx, hn, h.ok.lx, hl, h.ok.bys⟩, ⟨a1, a2, ?_, ?_⟩, ⟨b1, b2, b3, ?_⟩, ⟨e1, e2, e3, ?_⟩⟩, rfl⟩, ⟨hw.upd.trans h3 (fun _ _ q => q) ?_, ?_⟩⟩
  · rintro (q | q)
    · exact b2 q
    · exact b4 q
  · rintro g hg (rfl | q)
    · exact e3 hg
    · exact (e4 g hg).2 q
  · rintro (q | q)
    · exact a1 q
    · exact a3 q
  · rintro g hg (rfl | q)
    · exact a2 hg
    · exact a4 g hg q
  · intro q
    rcases hnew c q with q | q
    · exact a3 q
    · have := h.sx.lt.1
      omega
  · intro g hg q
    rcases hnew g q with q | q
    · exact a4 g hg q
    · have := h.sx.lt.2 g hg
      omega
  · intro q
    rcases hnew b q with q | q
    · exact b4 q
    · have := heap_lt h.blk
      omega
  · intro g hg
    refine ⟨(e4 g hg).1, fun q => ?_⟩
    rcases hnew g q with q | q
    · exact (e4 g hg).2 q
    · have := h.row.lt g hg
      omega
  · intro j hj q
    have h5 : OFp b c d ob oc od j := by
      rcases q with rfl | q
      · exact .inr (.inr (.inl rfl))
      · exact .inr (.inr (.inr (.inr (.inr q))))
    rcases hw.new j h5 with q | q
    · exact q
    · omega
  · intro j hj
    have hs := hw.upd.size
    rcases hj with q | q | q | q | q | q
    · exact hw.new j (.inl q)
    · exact hw.new j (.inr (.inl q))
    · exact hw.new j (.inr (.inr (.inl q)))
    · exact hw.new j (.inr (.inr (.inr (.inl q))))
    · exact hw.new j (.inr (.inr (.inr (.inr (.inl q)))))
    · rcases hnew j q with q | q
      · exact hw.new j (.inr (.inr (.inr (.inr (.inr q)))))
      · right
        omega
theorem om_turnC {w0 w w' : World} {fp : Nat → Prop} {b : Nat} {s : OS} {vb : Value} {ob : Option Nat} {c : Nat} {oc : Option Nat} {d : Nat} {od : Option Nat} {zs : List Rg} (h : OutAt w b s vb ob c oc d od) (hw : Went fp (OFp b c d ob oc od) w0 w) (t : Turned w c many oc zs w') (hn : Norm zs) (hl : zs.length ≤ 100000) :
    OM w0 w' fp b { s with xs := zs } := by
  obtain ⟨oc', h1, h2, h3⟩ := t
  obtain ⟨a1, a2, a3, a4⟩ := h.cd
  obtain ⟨b1, b2, b3, b4⟩ := h.bcd
  obtain ⟨e1, e2, e3, e4⟩ := h.obs
  have hnew : ∀ g, oc' = some g → oc = some g ∨ w.heap.size ≤ g := by
    intro g hg
    rcases h2 with rfl | rfl | ⟨g', rfl, h4⟩
    · exact .inl hg
    · cases hg
    · cases hg
      exact .inr h4
  refine ⟨OFp b c d ob oc' od, ⟨vb, ob, c, oc', d, od, ⟨h3.keeps h.blk ?_, h.row.keeps h3 ?_, h1, h.sy.keeps h3 ?_ ?_, ⟨h.ok.len, h.ok.base, h.ok.sent, hn, h.ok.ny, hl, h.ok.ly, h.ok.bys⟩, ⟨a1, ?_, a3, ?_⟩, ⟨b1, b2, ?_, b4⟩, ⟨e1, e2, e3, ?_⟩⟩, rfl⟩, ⟨hw.upd.trans h3 (fun _ _ q => q) ?_, ?_⟩⟩
  · rintro (q | q)
    · exact b1 q
    · exact b3 q
  · rintro g hg (rfl | q)
    · exact e2 hg
    · exact (e4 g hg).1 q
  · rintro (q | q)
    · exact a1 q.symm
    · exact a2 q
  · rintro g hg (rfl | q)
    · exact a3 hg
    · exact a4 g q hg
  · intro q
    rcases hnew d q with q | q
    · exact a2 q
    · have := h.sy.lt.1
      omega
  · intro g hg q
    rcases hnew g hg with hg | hg
    · exact a4 g hg q
    · have := h.sy.lt.2 g q
      omega
  · intro q
    rcases hnew b q with q | q
    · exact b3 q
    · have := heap_lt h.blk
      omega
  · intro g hg
    refine ⟨fun q => ?_, (e4 g hg).2⟩
    rcases hnew g q with q | q
    · exact (e4 g hg).1 q
    · have := h.row.lt g hg
      omega
  · intro j hj q
    have h5 : OFp b c d ob oc od j := by
      rcases q with rfl | q
      · exact .inr (.inl rfl)
      · exact .inr (.inr (.inr (.inr (.inl q))))
    rcases hw.new j h5 with q | q
    · exact q
    · omega
  · intro j hj
    have hs := hw.upd.size
    rcases hj with q | q | q | q | q | q
    · exact hw.new j (.inl q)
    · exact hw.new j (.inr (.inl q))
    · exact hw.new j (.inr (.inr (.inl q)))
    · exact hw.new j (.inr (.inr (.inr (.inl q))))
    · rcases hnew j q with q | q
      · exact hw.new j (.inr (.inr (.inr (.inr (.inl q)))))
      · right
        omega
    · exact hw.new j (.inr (.inr (.inr (.inr (.inr q)))))
/-- Its own block, and its row, are set. -/
theorem om_set {w0 w w1 w' : World} {fp : Nat → Prop} {b : Nat} {s s' : OS} {vb vb' : Value} {ob ob' : Option Nat} {c : Nat} {oc : Option Nat} {d : Nat} {od : Option Nat} (h : OutAt w b s vb ob c oc d od) (hw : Went fp (OFp b c d ob oc od) w0 w)
    (h1 : Upd (fun j => ob = some j) w w1) (h2 : Upd (fun j => j = b) w1 w')
    (hblk : w'.heap[b]? = some (.cells #[vb', .int .u64 s'.base, .int .u64 s'.B.length, .int .u64 s'.sent, .pointer (some ⟨c, 0, none⟩), .pointer (some ⟨d, 0, none⟩), .bool s'.fi, .bool s'.es, .bool s'.ea, .bool s'.el] 150 (0, 0)))
    (hrow : SlO encB 1 5 w1 vb' ob' (s'.B.drop s'.base)) (hob : ob' = ob ∨ ob' = none ∨ ∃ g, ob' = some g ∧ w.heap.size ≤ g) (hx : s'.xs = s.xs) (hy : s'.ys = s.ys) (hok : s'.Ok) : OM w0 w' fp b s' := by
  obtain ⟨b1, b2, b3, b4⟩ := h.bcd
  obtain ⟨e1, e2, e3, e4⟩ := h.obs
  have hnew : ∀ g, ob' = some g → ob = some g ∨ w.heap.size ≤ g := by
    intro g hg
    rcases hob with rfl | rfl | ⟨g', rfl, h4⟩
    · exact .inl hg
    · cases hg
    · cases hg
      exact .inr h4
  have hap : ∀ j, j < w.heap.size → ob ≠ some j → ob' ≠ some j := by
    intro j hj h1 h2
    rcases hnew j h2 with q | q
    · exact h1 q
    · omega
  have hb := heap_lt h.blk
  have h12 : Upd (fun j => ob = some j ∨ j = b) w w' := h1.trans h2 (fun _ _ q => .inl q) (fun _ _ q => .inr q)
  refine ⟨OFp b c d ob' oc od, ⟨vb', ob', c, oc, d, od, ⟨hblk, hrow.keeps h2 ?_, ?_, ?_, hok, h.cd, h.bcd, ⟨hap b hb e1, hap c h.sx.lt.1 e2, hap d h.sy.lt.1 e3, ?_⟩⟩, rfl⟩, ⟨hw.upd.trans h12 (fun _ _ q => q) ?_, ?_⟩⟩
  · rintro g hg rfl
    exact hap _ hb e1 hg
  · rw [hx]
    refine h.sx.keeps h12 ?_ ?_
    · rintro (q | q)
      · exact e2 q
      · exact b1 q.symm
    · rintro g hg (q | rfl)
      · exact (e4 g q).1 hg
      · exact b3 hg
  · rw [hy]
    refine h.sy.keeps h12 ?_ ?_
    · rintro (q | q)
      · exact e3 q
      · exact b2 q.symm
    · rintro g hg (q | rfl)
      · exact (e4 g q).2 hg
      · exact b4 hg
  · intro g hg
    refine ⟨fun q => ?_, fun q => ?_⟩
    · rcases hnew g hg with hg | hg
      · exact (e4 g hg).1 q
      · have := h.sx.lt.2 g q
        omega
    · rcases hnew g hg with hg | hg
      · exact (e4 g hg).2 q
      · have := h.sy.lt.2 g q
        omega
  · intro j hj q
    have h5 : OFp b c d ob oc od j := by
      rcases q with q | rfl
      · exact .inr (.inr (.inr (.inl q)))
      · exact .inl rfl
    rcases hw.new j h5 with q | q
    · exact q
    · omega
  · intro j hj
    have hs := hw.upd.size
    rcases hj with q | q | q | q | q | q
    · exact hw.new j (.inl q)
    · exact hw.new j (.inr (.inl q))
    · exact hw.new j (.inr (.inr (.inl q)))
    · rcases hnew j q with q | q
      · exact hw.new j (.inr (.inr (.inr (.inl q))))
      · right
        omega
    · exact hw.new j (.inr (.inr (.inr (.inr (.inl q)))))
    · exact hw.new j (.inr (.inr (.inr (.inr (.inr q)))))
end Go.Proofs.Ytfdgamlakfkekaa

/- DERIVED. Walks of outbuf's part; slices.Clone of bytes. -/
namespace Go.Proofs.Ytfdgamlakfkekaa
open Go.RowKit

set_option maxRecDepth 100000 in
set_option maxHeartbeats 1000000 in
theorem opart_nil (b : Nat) (s : OS) (fp : Nat → Prop) (limit t : Nat) (w : World) (h : OAt w b s fp) (hlim : limit < 18446744073709551616) (hys : s.ys = []) (ht : max s.sent (min limit s.B.length) = t) :
    Calls Try.prog 91 #[.pointer (some ⟨b, 0, none⟩), .int .u64 limit] w fun e w' => e = .returned (.tuple #[.int .u64 s.sent, .int .u64 t]) ∧ Below w.heap.size w w' := by
  obtain ⟨vb, ob, c, oc, d, od, hO, hfp⟩ := h
  have c5 : w.cell? ⟨b, 5, none⟩ = some (.pointer (some ⟨d, 0, none⟩)) := (cell_at hO.blk 5).trans rfl
  have HO := Lib.hid hO
  have hls := hO.ok.sent
  have hll := hO.ok.len
  have HY := Lib.hid hys
  have HC := Lib.hid (show ∀ W, Below w.heap.size w W → W.cell? ⟨b, 2, none⟩ = some (.int .u64 s.B.length) ∧ W.cell? ⟨b, 3, none⟩ = some (.int .u64 s.sent) from fun W hb => by
    have hk := below_keeps hb hO.blk (heap_lt hO.blk)
    exact ⟨(cell_at hk 2).trans rfl, (cell_at hk 3).trans rfl⟩)
  clear hO hfp hys
  generalize s.sent = sent at *
  generalize s.B.length = len at *
  go_enter Try.func91, Try.ntmps91
  go_wp2_with fail
  refine (all_any d many od s.ys _ (by exact HO.out.sy) (by rw [HY.out]; simp)).mono ?_
  rw [HY.out]
  rintro e w1 ⟨v, og, rfl, hs, hnew, hb⟩
  obtain ⟨oa, cap, rfl, hc1, hc2⟩ := hs.shape
  have HB := Lib.hid hb
  obtain ⟨c2, c3⟩ := HC.out _ hb
  clear hs hb hnew c5
  simp only [List.length_nil] at *
  go_wp2_with fail
  go_loopw [14] (fun i wr => i = .int .i64 0 ∧ wr = w1) (fun _ _ => 0)
  case atStart => exact ⟨rfl, rfl⟩
  case round =>
    obtain ⟨rfl, rfl⟩ := hrel
    rcases (by omega : ((limit < len ∧ sent < limit ∧ t = limit) ∨ (limit < len ∧ ¬ sent < limit ∧ t = sent) ∨ (len < limit ∧ sent < len ∧ t = len) ∨ (len < limit ∧ ¬ sent < len ∧ t = sent)) ∨ (limit = len ∧ sent < len ∧ t = len) ∨ (limit = len ∧ ¬ sent < len ∧ t = sent)) with (⟨q1, q2, q3⟩ | ⟨q1, q2, q3⟩ | ⟨q1, q2, q3⟩ | ⟨q1, q2, q3⟩) | ⟨q1, q2, q3⟩ | ⟨q1, q2, q3⟩
    all_goals subst q3
    all_goals try subst q1
    all_goals clear ht
    all_goals go_wp2_with fail
    all_goals go_quiet (fail)
    all_goals go_wp2_with fail
    all_goals go_ret2
    all_goals exact ⟨rfl, below_drewN HB.out _⟩
end Go.Proofs.Ytfdgamlakfkekaa

/- DERIVED. Cut of a set of ranges. -/
namespace Go.Proofs.Ytfdgamlakfkekaa
open Go.RowKit

/-- The worlds of Cut's loop: the new list so far. -/
structure CutSt (w0 : World) (ys : List Rg) (v : Value) (og : Option Nat) (w : World) : Prop where
  sl : Sl w v og ys
  new : ∀ g, og = some g → w0.heap.size ≤ g
  below : Below w0.heap.size w0 w
theorem CutSt.size {w0 : World} {ys : List Rg} {v : Value} {og : Option Nat} {w : World} (h : CutSt w0 ys v og w) : w0.heap.size ≤ w.heap.size := h.below.size
theorem CutSt.alloc {w0 : World} {ys : List Rg} {v : Value} {og : Option Nat} {w : World} (h : CutSt w0 ys v og w) (o : Obj) : CutSt w0 ys v og (w.alloc o) :=
  ⟨h.sl.below ((Below.refl _ _).alloc (Nat.le_refl _) _), h.new, h.below.alloc h.size _⟩

/-- append(out, one range). -/
theorem cut_push {w0 w : World} {ys : List Rg} {v : Value} {og : Option Nat} (h : CutSt w0 ys v og w) {i0 : TypeInfo} (hi : Try.prog.info? 130 = some i0) (hz0 : i0.zero = some (.agg #[.int .u64 0, .int .u64 0])) (hz1 : i0.size = 2) (hz2 : i0.bytes = 16)
    {ops : Array Oper} {rest : List Oper} {o : Oper} {a : Act} {Q : Exit → Act → World → Prop} (hgd : o.guard = none) (d s : Operand)
    (ho : o.op = .call { callee := .builtin .append, args := #[d, s], argTypes := #[37, 37] }) {h' : Nat} {r : Rg} {E' : TypeId} (hs : Row encR w E' h' [r])
    (hd : a.eval d = v) {c : Nat} (hsv : a.eval s = .slice (some ⟨h', 0, none⟩) 1 c) (hb : ys.length * 16 + 16 ≤ 140737488355328)
    (hK : ∀ W v' og', CutSt w0 (ys ++ [r]) v' og' W → (og' = og ∨ ∃ g, og' = some g ∧ w.heap.size ≤ g) → Upd (fun j => og = some j) w W → wpList Try.prog ops Q rest (a.put o.dst v') W) : wpList Try.prog ops Q (o :: rest) a w := by
  obtain ⟨h1, h2, h3⟩ := h
  refine wpList_push encR_len encR_one Try.underlying37 hi hz1 hz0 zeroR hgd d s ho (show SlG encR 130 w v og ys from h1) hs hd hsv rfl (by rw [hz2]; omega) (by omega) ?_
  intro W v' og' hS ho' hU hsz
  refine hK W v' og' ⟨hS, ?_, ?_⟩ ho' hU
  · rcases ho' with rfl | ⟨g, rfl, hg⟩
    · exact h2
    · intro g' e
      cases e
      exact Nat.le_trans h3.size hg
  · exact Upd.onto h3 hU h3.size (fun j hj e => by have := h2 j e; omega)

theorem CutSt.store {w0 : World} {ys : List Rg} {v u : Value} {og : Option Nat} {w : World} (h : CutSt w0 ys v og w) {b : Nat} {most : Int} (hb : w0.heap[b]? = some (.cells #[.int .i64 most, u] 142 (0, 0))) :
    SetIs (w.setCell ⟨b, 1, none⟩ v) b most v og ys ∧ Upd (fun j => j = b) w0 (w.setCell ⟨b, 1, none⟩ v) := by
  have hbl := heap_lt hb
  have hoo : og ≠ some b := fun e => by have := h.new _ e; omega
  refine ⟨⟨set_store (below_keeps h.below hb hbl) v, h.sl.keeps (F := fun j => j = b) (Upd.setCell (Upd.refl (fun j => j = b) w) ⟨b, 1, none⟩ (.inl rfl) _) (fun j hj e => hoo (by rw [hj, e])), hoo⟩, ?_⟩
  exact Upd.setCell (F := fun j => j = b) ((Upd.below h.below).mono (fun i hi x => by omega)) ⟨b, 1, none⟩ (.inl rfl) _

theorem row_two (w : World) (o : Obj) (r : Rg) : Row encR ((w.alloc o).alloc (.cells #[.int .u64 r.1, .int .u64 r.2] 130)) 130 (w.heap.size + 1) [r] := by
  have := alloc_at (w.alloc o) (.cells #[.int .u64 r.1, .int .u64 r.2] 130)
  rw [show (w.alloc o).heap.size = w.heap.size + 1 by simp] at this
  exact this

set_option maxRecDepth 100000 in
set_option maxHeartbeats 4000000 in
theorem cut_any (b : Nat) (most : Int) (og : Option Nat) (xs : List Rg) (lo hi : Nat) (w : World) (h : SetAt w b most og xs) (hm : 1 ≤ most) (hm2 : most ≤ 9223372036854775807) (_hlo : lo < 18446744073709551616) (_hhi : hi < 18446744073709551616) (hx : Norm xs) (hl : xs.length * 32 + 64 ≤ 140737488355328) :
    Calls Try.prog 95 #[.pointer (some ⟨b, 0, none⟩), .int .u64 lo, .int .u64 hi] w fun e w' => e = .returned (.tuple #[]) ∧ Turned w b most og (trimL most (cutRaw lo hi xs)) w' := by
  obtain ⟨i0, hi0, hz0, hz1, hz2⟩ := info_parts infoR
  obtain ⟨v, hb, hs, hne⟩ := h
  have c1 := cell_at hb 1
  simp at c1
  obtain ⟨oa, cap, rfl, hcap, hcap2⟩ := hs.shape
  have HSET := Lib.hid hb
  have HS := Lib.hid hs
  have HX := Lib.hid hx
  clear hb hs hx
  generalize hn : xs.length = len at *
  have HN := Lib.hid hn
  clear hn
  have hlen : ∀ k, k ≤ len → (cutRaw lo hi (xs.take k)).length ≤ 2 * k := fun k hk => Nat.le_trans (cutRaw_len lo hi _) (by rw [List.length_take]; omega)
  have HLEN := Lib.hid hlen
  clear hlen
  go_enter Try.func95, Try.ntmps95
  go_wp2_with fail
  clear c1
  go_loopw [6, 14] (fun ov i wr => ∃ (k : Nat) (vo : Value) (oo : Option Nat), i = .int .i64 k ∧ k ≤ len ∧ vo = ov ∧ CutSt w (cutRaw lo hi (xs.take k)) vo oo wr) (fun _ i _ => len - (intOf i).toNat)
  case atStart => exact ⟨0, _, none, rfl, by omega, rfl, ⟨Sl.nil _, by simp, Below.refl _ _⟩⟩
  case round =>
    obtain ⟨k, vo, oo, rfl, hk, rfl, hst⟩ := hrel
    have HST := Lib.hid hst
    clear hst
    by_cases hlt : k < len
    · obtain ⟨r, hr⟩ : ∃ r, xs[k]? = some r := ⟨_, List.getElem?_eq_getElem (by rw [HN.out]; exact hlt)⟩
      obtain ⟨hr1, hr2⟩ := HX.out.at hr
      obtain ⟨g, hog, rfl, hgl, c0, c1⟩ := HS.out.atS hr
      have d0 := (HST.out.below.cell (p := ⟨g, k * 2, none⟩) hgl).trans c0
      have d1 := (HST.out.below.cell (p := ⟨g, k * 2 + 1, none⟩) hgl).trans c1
      have HT := Lib.hid (cutRaw_take (lo := lo) (hi := hi) hr)
      have hlen := HLEN.out k hk
      clear c0 c1 hog hr
      generalize cutRaw lo hi (xs.take k) = ys at *
      generalize hnx : cutRaw lo hi (xs.take (k + 1)) = nxt at *
      have HNX := Lib.hid hnx
      clear hnx
      by_cases hkeep : hi ≤ lo ∨ r.2 ≤ lo ∨ hi ≤ r.1
      · have hc1 : cut1 lo hi r = [r] := by rw [cut1, if_pos hkeep]
        have HC1 := Lib.hid hc1
        clear hc1
        rcases (show hi ≤ lo ∨ (¬ hi ≤ lo ∧ r.2 ≤ lo) ∨ (¬ hi ≤ lo ∧ ¬ r.2 ≤ lo ∧ hi ≤ r.1) by omega) with h1 | ⟨h1, h2⟩ | ⟨h1, h2, h3⟩
        all_goals
          clear hkeep
          go_wp2_with (refine cut_push (by exact (HST.out.alloc _).alloc _) hi0 hz0 hz1 hz2 rfl (.tmp 33) (.tmp 35) rfl (r := r) (by exact row_two _ _ r) rfl rfl ?c1 ?_)
          case c1 => omega
          intro W1 v1 o1 hS1 ho1 hU1
          have HS1 := Lib.hid hS1
          clear hS1 ho1 hU1 HST
          go_wp2
          go_roundw
          case rel => exact ⟨k + 1, _, o1, by go_num, by omega, rfl, by rw [HNX.out, HT.out, HC1.out]; exact HS1.out⟩
          case measure => simp [intOf]; omega
      · have hc1 : cut1 lo hi r = (if r.1 < lo then [(r.1, lo)] else []) ++ (if hi < r.2 then [(hi, r.2)] else []) := by rw [cut1, if_neg hkeep]
        have HC1 := Lib.hid hc1
        obtain ⟨h1, h2, h3⟩ : ¬ hi ≤ lo ∧ ¬ r.2 ≤ lo ∧ ¬ hi ≤ r.1 := ⟨by omega, by omega, by omega⟩
        clear hc1 hkeep
        have HR := Lib.hid (alloc_at wr (.cells #[.int .u64 r.1, .int .u64 r.2] 130))
        have HLT := Lib.hid (show ∀ j, oo = some j → j < wr.heap.size from HST.out.sl.lt)
        by_cases h4 : r.1 < lo
        · go_wp2_with (refine cut_push (by exact (HST.out.alloc _).alloc _) hi0 hz0 hz1 hz2 rfl (.tmp 41) (.tmp 46) rfl (r := (r.1, lo)) (by exact row_two _ _ (r.1, lo)) rfl rfl ?c1 ?_)
          case c1 => omega
          intro W1 v1 o1 hS1 ho1 hU1
          have HS1 := Lib.hid hS1
          have hR1 := hU1.keeps (alloc_old (o := .cells #[.int .u64 r.1, .int .u64 lo] 130) HR.out) (by intro e; have := HLT.out _ e; omega)
          have e0 := cell_at hR1 0
          have e1 := cell_at hR1 1
          simp at e0 e1
          clear hS1 ho1 hU1 HST hR1 d0 d1 HR
          by_cases h5 : hi < r.2
          · go_wp2_with (refine cut_push (by exact HS1.out.alloc _) hi0 hz0 hz1 hz2 rfl (.tmp 52) (.tmp 57) rfl (r := (hi, r.2)) (by exact alloc_at _ _) rfl rfl ?c1 ?_)
            case c1 => simp only [List.length_append, List.length_cons, List.length_nil]; omega
            intro W2 v2 o2 hS2 ho2 hU2
            have HS2 := Lib.hid hS2
            clear hS2 ho2 hU2 HS1
            go_wp2
            go_roundw
            case rel => exact ⟨k + 1, _, o2, by go_num, by omega, rfl, by rw [HNX.out, HT.out, HC1.out, if_pos h4, if_pos h5]; simpa using HS2.out⟩
            case measure => simp [intOf]; omega
          · go_wp2
            go_roundw
            case rel => exact ⟨k + 1, _, o1, by go_num, by omega, rfl, by rw [HNX.out, HT.out, HC1.out, if_pos h4, if_neg h5]; simpa using HS1.out⟩
            case measure => simp [intOf]; omega
        · by_cases h5 : hi < r.2
          · go_wp2_with (refine cut_push (by exact (HST.out.alloc _).alloc _) hi0 hz0 hz1 hz2 rfl (.tmp 52) (.tmp 57) rfl (r := (hi, r.2)) (by exact row_two _ _ (hi, r.2)) rfl rfl ?c1 ?_)
            case c1 => omega
            intro W1 v1 o1 hS1 ho1 hU1
            have HS1 := Lib.hid hS1
            clear hS1 ho1 hU1 HST
            go_wp2
            go_roundw
            case rel => exact ⟨k + 1, _, o1, by go_num, by omega, rfl, by rw [HNX.out, HT.out, HC1.out, if_neg h4, if_pos h5]; simpa using HS1.out⟩
            case measure => simp [intOf]; omega
          · go_wp2
            go_roundw
            case rel => exact ⟨k + 1, _, oo, by go_num, by omega, rfl, by rw [HNX.out, HT.out, HC1.out, if_neg h4, if_neg h5]; simpa using HST.out.alloc _⟩
            case measure => simp [intOf]; omega
    · have hbl : b < w.heap.size := heap_lt HSET.out
      have hbw := below_keeps HST.out.below HSET.out hbl
      have fb := free_at hbw 1
      have cb := cell_at hbw 1
      simp at cb
      have hfin : cutRaw lo hi (xs.take k) = cutRaw lo hi xs := by rw [List.take_of_length_le (by rw [HN.out]; omega)]
      rw [hfin] at HST
      obtain ⟨oa2, cap2, rfl, hq1, hq2⟩ := HST.out.sl.shape
      have HSA := Lib.hid (HST.out.store HSET.out).1
      have HU := Lib.hid (HST.out.store HSET.out).2
      have HNEW := Lib.hid (show ∀ g, oo = some g → w.heap.size ≤ g from HST.out.new)
      have HSZ := Lib.hid HU.out.size
      clear hbw hfin
      go_wp2_with fail
      refine (trim_any b most oo (cutRaw lo hi xs) _ ⟨_, by exact HSA.out⟩ hm hm2).mono ?_
      rintro e w' ⟨rfl, ht⟩
      have HT := Lib.hid ht
      clear ht
      go_wp2
      refine bodyPost_end (results_none rfl _ _ _) rfl ?_
      refine ⟨rfl, ?_⟩
      obtain ⟨o2, h1, h2, h3⟩ := HT.out
      refine ⟨o2, h1, ?_, ?_⟩
      · rcases h2 with rfl | rfl | ⟨g, rfl, hg⟩
        · cases o2 with
          | none => exact .inr (.inl rfl)
          | some g => exact .inr (.inr ⟨g, rfl, HNEW.out g rfl⟩)
        · exact .inr (.inl rfl)
        · exact .inr (.inr ⟨g, rfl, Nat.le_trans HSZ.out hg⟩)
      · refine HU.out.trans h3 (fun i _ x => .inl x) (fun i hi x => ?_)
        rcases x with rfl | x
        · exact .inl rfl
        · have := HNEW.out i x
          omega
end Go.Proofs.Ytfdgamlakfkekaa

/- DERIVED. A part of a slice, x[i:j]; four results. -/
namespace Go.Proofs.Ytfdgamlakfkekaa
open Go.RowKit

def partV (oa : Option Addr) (k cap l h : Nat) : Value := .slice (if cap = l then oa else oa.map (·.add (l * k))) (h - l) (cap - l)
theorem exec_part {P : Program} {o : Oper} {w : World} {t e : TypeId} (hu : P.underlying t = some (.slice e)) {i : TypeInfo} (hi : P.info? e = some i) {f : Operand → Value} {x l h : Operand} (ho : o.op = .slice t x (some l) (some h) none) {oa : Option Addr} {len cap : Nat} {n m : Nat} {kn km : IntKind}
    (hx : f x = .slice oa len cap) (hl : f l = .int kn n) (hh : f h = .int km m) (h1 : n ≤ m) (h2 : m ≤ cap) : (execOp f o).run P w = .ok (.value (partV oa i.size cap n m)) w := by
  simp [execOp, ho, hx, hl, hh, Instr.sliceAt, Instr.slice, run_underlying hu, Instr.sliceBounds, Instr.sliceBound, sizeOf, typeInfo, asIntOf, hi, h1, h2, partV]
theorem Vw.mid {α : Type} {enc : α → List Value} {k : Nat} {w : World} {B : Nat} {oa : Option Addr} {len cap l h : Nat} {xs : List α} (hv : Vw enc w B (.slice oa len cap) xs) (hk : ∀ a, (enc a).length = k) (h1 : l ≤ h) (h2 : h ≤ len) : Vw enc w B (partV oa k cap l h) ((xs.drop l).take (h - l)) := by
  have ht := hv.tail hk (Nat.le_trans h1 h2)
  obtain ⟨oa', cap', e1, e2, e3, _⟩ := hv
  cases e1
  obtain ⟨o2, c2, f1, f2, f3, f4⟩ := ht
  unfold tailV at f1
  have f5 : o2 = (if cap = l then oa else oa.map (·.add (l * k))) ∧ c2 = cap - l := by
    rw [Value.slice.injEq] at f1
    exact ⟨f1.1.symm, f1.2.2.symm⟩
  have hl : ((xs.drop l).take (h - l)).length = h - l := by rw [List.length_take, List.length_drop]; omega
  refine ⟨_, cap - l, by rw [hl]; rfl, by rw [hl]; omega, by omega, ?_⟩
  rcases f4 with f4 | ⟨b, off, f6, f7, f8⟩
  · left
    rw [f4, List.take_nil]
  · right
    rw [f5.1] at f6
    refine ⟨b, off, f6, f7, fun j u hj => f8 j u ?_⟩
    rw [← flat_take hk, List.getElem?_take] at hj
    split at hj
    · exact hj
    · cases hj
theorem results_tmp4 {fn : Func} {t u v x : Tmp} (h : fn.results = #[.tmp t, .tmp u, .tmp v, .tmp x]) (tmps : Array Value) (P : Program) (w : World) :
    (results fn tmps).run P w = .ok (.tuple #[tmps.getD t undef, tmps.getD u undef, tmps.getD v undef, tmps.getD x undef]) w := by
  simp [results, h]
theorem results_tmp5 {fn : Func} {t u v x y : Tmp} (h : fn.results = #[.tmp t, .tmp u, .tmp v, .tmp x, .tmp y]) (tmps : Array Value) (P : Program) (w : World) :
    (results fn tmps).run P w = .ok (.tuple #[tmps.getD t undef, tmps.getD u undef, tmps.getD v undef, tmps.getD x undef, tmps.getD y undef]) w := by
  simp [results, h]
end Go.Proofs.Ytfdgamlakfkekaa

/- DERIVED. Plain laws of lists of ranges: the program's answers are the document's. -/
namespace Go.Proofs.Ytfdgamlakfkekaa
open Go.RowKit

theorem from_ge (xs : List Rg) : ∀ f : Nat, f ≤ xs.foldl fromR f := by
  induction xs with
  | nil => intro f; exact Nat.le_refl _
  | cons r xs ih =>
    intro f
    refine Nat.le_trans ?_ (ih (fromR f r))
    unfold fromR
    split <;> omega
theorem from_above (xs : List Rg) (f : Nat) (h : ∀ r ∈ xs, f < r.1) : xs.foldl fromR f = f := by
  induction xs with
  | nil => rfl
  | cons r xs ih =>
    have h1 := h r (List.mem_cons_self ..)
    simp only [List.foldl_cons]
    rw [show fromR f r = f by rw [fromR, if_neg (by omega)]]
    exact ih (fun x hx => h x (List.mem_cons_of_mem _ hx))
theorem end_above (xs : List Rg) (f e : Nat) (h : ∀ r ∈ xs, e ≤ r.1) : xs.foldl (endR f) e = e := by
  induction xs with
  | nil => rfl
  | cons r xs ih =>
    have h1 := h r (List.mem_cons_self ..)
    simp only [List.foldl_cons]
    rw [show endR f e r = e by unfold endR; split <;> omega]
    exact ih (fun x hx => h x (List.mem_cons_of_mem _ hx))
theorem Norm.tail {r : Rg} {xs : List Rg} (h : Norm (r :: xs)) : Norm xs := ⟨fun x hx => h.1 x (List.mem_cons_of_mem _ hx), (List.pairwise_cons.1 h.2).2⟩
theorem Norm.head {r : Rg} {xs : List Rg} (h : Norm (r :: xs)) : (r.1 < r.2 ∧ r.2 ≤ 4611686018427387904) ∧ ∀ x ∈ xs, r.2 < x.1 := ⟨h.1 r (List.mem_cons_self ..), (List.pairwise_cons.1 h.2).1⟩
theorem gapF_is (t : Nat) : ∀ (xs : List Rg) (f : Nat), Norm xs →
    (gapF xs f t).1 = xs.foldl fromR f ∧ (gapF xs f t).2 = xs.foldl (endR (xs.foldl fromR f)) t ∧ ((gapF xs f t).2 ≤ (gapF xs f t).1 ↔ t ≤ (gapF xs f t).1)
  | [], f, _ => ⟨rfl, rfl, Iff.rfl⟩
  | r :: xs, f, hn => by
    obtain ⟨⟨h1, h2⟩, h3⟩ := hn.head
    unfold gapF
    by_cases c1 : r.2 ≤ f
    · rw [if_pos c1]
      obtain ⟨i1, i2, i3⟩ := gapF_is t xs f hn.tail
      have e1 : fromR f r = f := by rw [fromR, if_neg (by omega)]
      have g := from_ge xs f
      have e2 : endR (xs.foldl fromR f) t r = t := by rw [endR, if_neg (by omega)]
      simp only [List.foldl_cons, e1, e2]
      exact ⟨i1, i2, i3⟩
    · rw [if_neg c1]
      by_cases c2 : f < r.1
      · rw [if_pos c2]
        have e1 : fromR f r = f := by rw [fromR, if_neg (by omega)]
        have e2 : endR f t r = min t r.1 := by rw [endR, if_pos c2]
        simp only [List.foldl_cons, e1]
        rw [from_above xs f (fun x hx => by have := h3 x hx; omega), e2, end_above xs f _ (fun x hx => by have := h3 x hx; omega)]
        exact ⟨rfl, rfl, by omega⟩
      · rw [if_neg c2]
        obtain ⟨i1, i2, i3⟩ := gapF_is t xs r.2 hn.tail
        have e1 : fromR f r = r.2 := by rw [fromR, if_pos (by omega)]
        have g := from_ge xs r.2
        have e2 : endR (xs.foldl fromR r.2) t r = t := by rw [endR, if_neg (by omega)]
        simp only [List.foldl_cons, e1, e2]
        exact ⟨i1, i2, i3⟩
theorem gapR_is (xs : List Rg) (f t : Nat) (hn : Norm xs) : gapR xs f t = gapL xs f t := by
  obtain ⟨i1, i2, i3⟩ := gapF_is t xs f hn
  unfold gapR gapL
  by_cases h : t ≤ xs.foldl fromR f
  · rw [if_pos h, if_pos (by rw [i3, i1]; exact h)]
  · rw [if_neg h, if_neg (by rw [i3, i1]; exact h), ← i2, ← i1]
end Go.Proofs.Ytfdgamlakfkekaa

/- DERIVED. Plain laws: the two ways to add a range are one. -/
namespace Go.Proofs.Ytfdgamlakfkekaa
open Go.RowKit

def addN : List Rg → Rg → List Rg
  | [], x => [x]
  | r :: rs, x => if r.2 < x.1 then r :: addN rs x else if x.2 < r.1 then x :: r :: rs else addN rs (min x.1 r.1, max x.2 r.2)

theorem ra_after (rs : List Rg) : ∀ (ys : List Rg) (x : Rg), (∀ r ∈ rs, ¬ r.2 < x.1 ∧ x.2 < r.1) → rs.foldl Ra.step ⟨ys, x, true⟩ = ⟨ys ++ rs, x, true⟩ := by
  induction rs with
  | nil => intro ys x _; simp
  | cons r rs ih =>
    intro ys x h
    obtain ⟨h1, h2⟩ := h r (List.mem_cons_self ..)
    simp only [List.foldl_cons]
    rw [show Ra.step ⟨ys, x, true⟩ r = ⟨ys ++ [r], x, true⟩ by simp [Ra.step, h1, h2], ih _ _ (fun a ha => h a (List.mem_cons_of_mem _ ha))]
    simp
def Ra.fin (s : Ra) : List Rg := if s.done then s.out else s.out ++ [s.x]
theorem ra_is (rs : List Rg) : ∀ (ys : List Rg) (x : Rg), x.1 < x.2 → Norm rs → (rs.foldl Ra.step ⟨ys, x, false⟩).fin = ys ++ addN rs x := by
  induction rs with
  | nil => intro ys x _ _; simp [Ra.fin, addN]
  | cons r rs ih =>
    intro ys x hx hn
    obtain ⟨⟨h1, h2⟩, h3⟩ := hn.head
    simp only [List.foldl_cons, addN]
    by_cases c1 : r.2 < x.1
    · rw [if_pos c1, show Ra.step ⟨ys, x, false⟩ r = ⟨ys ++ [r], x, false⟩ by simp [Ra.step, c1], ih _ _ hx hn.tail]
      simp
    · rw [if_neg c1]
      by_cases c2 : x.2 < r.1
      · rw [if_pos c2, show Ra.step ⟨ys, x, false⟩ r = ⟨ys ++ [x] ++ [r], x, true⟩ by simp [Ra.step, c1, c2], ra_after _ _ _ (fun a ha => by
          have := h3 a ha
          have := hn.1 a (List.mem_cons_of_mem _ ha)
          omega)]
        simp [Ra.fin]
      · rw [if_neg c2, show Ra.step ⟨ys, x, false⟩ r = ⟨ys, (min x.1 r.1, max x.2 r.2), false⟩ by simp [Ra.step, c1, c2], ih _ _ (by simp only []; omega) hn.tail]
theorem addR_is {xs : List Rg} {lo hi : Nat} (h : lo < hi) (hn : Norm xs) : addR lo hi xs = addN xs (lo, hi) := by
  have := ra_is xs [] (lo, hi) h hn
  rw [List.nil_append] at this
  exact this

theorem addN_mid (hi : Nat) : ∀ (rs : List Rg) (x : Rg), x.1 < x.2 → Norm rs → (∀ r ∈ rs, x.1 ≤ r.2) → (∀ r ∈ rs, x.2 < r.1 ↔ hi < r.1) →
    addN rs x = fuse x (rs.takeWhile (fun x => decide (x.1 ≤ hi))) :: rs.drop (rs.takeWhile (fun x => decide (x.1 ≤ hi))).length
  | [], x, _, _, _, _ => by simp [addN, fuse]
  | r :: rs, x, hx, hn, hb, hc => by
    obtain ⟨⟨h1, h2⟩, h3⟩ := hn.head
    have b1 := hb r (List.mem_cons_self ..)
    have c1 := hc r (List.mem_cons_self ..)
    rw [addN, if_neg (by omega)]
    by_cases c2 : x.2 < r.1
    · rw [if_pos c2, List.takeWhile_cons_of_neg (by simpa using c1.1 c2)]
      simp [fuse]
    · have c3 : ¬ hi < r.1 := fun h => c2 (c1.2 h)
      rw [if_neg c2, List.takeWhile_cons_of_pos (by simpa using Nat.le_of_not_lt c3), addN_mid hi rs _ (by simp only []; omega) hn.tail (fun a ha => by
        have := h3 a ha
        have := hn.1 a (List.mem_cons_of_mem _ ha)
        simp only []
        omega) (fun a ha => by
        have := h3 a ha
        have := hn.1 a (List.mem_cons_of_mem _ ha)
        have := hc a (List.mem_cons_of_mem _ ha)
        simp only []
        omega)]
      simp [fuse]
theorem addRaw_is {lo hi : Nat} (h : lo < hi) : ∀ (xs : List Rg), Norm xs → addRaw xs lo hi = addN xs (lo, hi)
  | [], _ => by simp [addRaw, iOf, kOf, fuse, addN]
  | r :: rs, hn => by
    obtain ⟨⟨h1, h2⟩, h3⟩ := hn.head
    by_cases c1 : r.2 < lo
    · have ih := addRaw_is h rs hn.tail
      have hi1 : iOf (r :: rs) lo = iOf rs lo + 1 := by unfold iOf; rw [List.takeWhile_cons_of_pos (by simpa using c1)]; simp
      have hk1 : kOf (r :: rs) (iOf (r :: rs) lo) hi = kOf rs (iOf rs lo) hi + 1 := by rw [hi1]; unfold kOf; simp; omega
      rw [addN, if_pos c1, ← ih]
      unfold addRaw
      rw [hk1, hi1]
      simp
    · have hi0 : iOf (r :: rs) lo = 0 := by unfold iOf; rw [List.takeWhile_cons_of_neg (by simpa using c1)]; rfl
      have := addN_mid hi (r :: rs) (lo, hi) h hn (fun a ha => by
        rcases List.mem_cons.1 ha with rfl | ha
        · simp only []; omega
        · have := h3 a ha
          have := hn.1 a (List.mem_cons_of_mem _ ha)
          simp only []
          omega) (fun a _ => Iff.rfl)
      rw [this]
      unfold addRaw
      rw [hi0]
      unfold kOf
      simp only [List.take_zero, List.nil_append, List.drop_zero, Nat.zero_add]
      congr 2
      exact (List.prefix_iff_eq_take.1 (List.takeWhile_prefix _)).symm
theorem addRaw_addR {xs : List Rg} {lo hi : Nat} (h : lo < hi) (hn : Norm xs) : addR lo hi xs = addRaw xs lo hi := by rw [addR_is h hn, addRaw_is h xs hn]
end Go.Proofs.Ytfdgamlakfkekaa

/- DERIVED. Plain laws: what adds, cuts, trims keep; what is in a list behind them. -/
namespace Go.Proofs.Ytfdgamlakfkekaa
open Go.RowKit

theorem addN_above (L : Nat) : ∀ (rs : List Rg) (x : Rg), L < x.1 → (∀ r ∈ rs, L < r.1) → ∀ a ∈ addN rs x, L < a.1
  | [], x, hx, _, a, ha => by simp [addN] at ha; subst ha; exact hx
  | r :: rs, x, hx, hr, a, ha => by
    have h1 := hr r (List.mem_cons_self ..)
    have h2 : ∀ r ∈ rs, L < r.1 := fun b hb => hr b (List.mem_cons_of_mem _ hb)
    unfold addN at ha
    split at ha
    · rcases List.mem_cons.1 ha with rfl | ha
      · exact h1
      · exact addN_above L rs x hx h2 a ha
    · split at ha
      · rcases List.mem_cons.1 ha with rfl | ha
        · exact hx
        · exact hr a ha
      · exact addN_above L rs _ (by simp only []; omega) h2 a ha
theorem addN_norm : ∀ (rs : List Rg) (x : Rg), x.1 < x.2 → x.2 ≤ 4611686018427387904 → Norm rs → Norm (addN rs x)
  | [], x, h1, h2, _ => ⟨by intro a ha; simp [addN] at ha; subst ha; exact ⟨h1, h2⟩, by simp [addN]⟩
  | r :: rs, x, h1, h2, hn => by
    obtain ⟨⟨h3, h4⟩, h5⟩ := hn.head
    unfold addN
    split
    · rename_i c
      have ih := addN_norm rs x h1 h2 hn.tail
      refine ⟨?_, List.pairwise_cons.2 ⟨addN_above r.2 rs x c h5, ih.2⟩⟩
      intro a ha
      rcases List.mem_cons.1 ha with rfl | ha
      · exact ⟨h3, h4⟩
      · exact ih.1 a ha
    · split
      · rename_i c1 c2
        refine ⟨?_, List.pairwise_cons.2 ⟨?_, hn.2⟩⟩
        · intro a ha
          rcases List.mem_cons.1 ha with rfl | ha
          · exact ⟨h1, h2⟩
          · exact hn.1 a ha
        · intro a ha
          rcases List.mem_cons.1 ha with rfl | ha
          · exact c2
          · have := h5 a ha
            omega
      · exact addN_norm rs _ (by simp only []; omega) (by simp only []; omega) hn.tail
theorem addN_len : ∀ (rs : List Rg) (x : Rg), (addN rs x).length ≤ rs.length + 1
  | [], x => by simp [addN]
  | r :: rs, x => by
    unfold addN
    split
    · have := addN_len rs x
      simp only [List.length_cons]
      omega
    · split
      · simp
      · have := addN_len rs (min x.1 r.1, max x.2 r.2)
        simp only [List.length_cons]
        omega
theorem Norm.drop {xs : List Rg} (h : Norm xs) (k : Nat) : Norm (xs.drop k) :=
  ⟨fun r hr => h.1 r (List.mem_of_mem_drop hr), h.2.sublist (List.drop_sublist _ _)⟩
theorem trim_norm {xs : List Rg} (most : Int) (h : Norm xs) : Norm (trimL most xs) := h.drop _
theorem trim_len (most : Int) (xs : List Rg) (h : 0 ≤ most) : ((trimL most xs).length : Int) ≤ most ∧ (trimL most xs).length ≤ xs.length := by
  unfold trimL
  rw [List.length_drop]
  omega
theorem cut1_in {lo hi : Nat} {r a : Rg} (hr : r.1 < r.2) (ha : a ∈ cut1 lo hi r) : r.1 ≤ a.1 ∧ a.1 < a.2 ∧ a.2 ≤ r.2 := by
  unfold cut1 at ha
  split at ha
  · simp at ha
    subst ha
    omega
  · rename_i c
    rcases List.mem_append.1 ha with ha | ha
    · split at ha
      · simp at ha
        subst ha
        simp only []
        omega
      · simp at ha
    · split at ha
      · simp at ha
        subst ha
        simp only []
        omega
      · simp at ha
theorem cut1_norm {lo hi : Nat} {r : Rg} (hr : r.1 < r.2 ∧ r.2 ≤ 4611686018427387904) : Norm (cut1 lo hi r) := by
  refine ⟨fun a ha => by have := cut1_in hr.1 ha; omega, ?_⟩
  unfold cut1
  split
  · simp
  · split <;> split <;> simp
    omega
theorem cut_norm (lo hi : Nat) : ∀ xs : List Rg, Norm xs → Norm (cutRaw lo hi xs)
  | [], _ => ⟨by simp [cutRaw], by simp [cutRaw]⟩
  | r :: xs, hn => by
    obtain ⟨h1, h2⟩ := hn.head
    have ih := cut_norm lo hi xs hn.tail
    have hc := cut1_norm (lo := lo) (hi := hi) h1
    have e : cutRaw lo hi (r :: xs) = cut1 lo hi r ++ cutRaw lo hi xs := by simp [cutRaw]
    rw [e]
    refine ⟨?_, List.pairwise_append.2 ⟨hc.2, ih.2, ?_⟩⟩
    · intro a ha
      rcases List.mem_append.1 ha with ha | ha
      · exact hc.1 a ha
      · exact ih.1 a ha
    · intro a ha b hb
      obtain ⟨c, hc1, hc2⟩ := List.mem_flatMap.1 hb
      have := cut1_in h1.1 ha
      have := cut1_in (hn.tail.1 c hc1).1 hc2
      have := h2 c hc1
      omega
end Go.Proofs.Ytfdgamlakfkekaa

/- DERIVED. Plain laws: which numbers are in a list behind an add, a cut; how many. -/
namespace Go.Proofs.Ytfdgamlakfkekaa
open Go.RowKit

theorem any_addN (n : Nat) : ∀ (rs : List Rg) (x : Rg), x.1 < x.2 → Norm rs → (addN rs x).any (hasP n) = (hasP n x || rs.any (hasP n))
  | [], x, _, _ => by simp [addN]
  | r :: rs, x, hx, hn => by
    obtain ⟨⟨h1, h2⟩, h3⟩ := hn.head
    unfold addN
    split
    · rw [List.any_cons, any_addN n rs x hx hn.tail, List.any_cons]
      cases hasP n r <;> cases hasP n x <;> simp
    · split
      · simp [List.any_cons]
      · rename_i c1 c2
        rw [any_addN n rs _ (by simp only []; omega) hn.tail, List.any_cons]
        have e : hasP n (min x.1 r.1, max x.2 r.2) = (hasP n x || hasP n r) := by
          rw [Bool.eq_iff_iff]
          simp only [hasP, Bool.and_eq_true, decide_eq_true_eq, Bool.or_eq_true]
          omega
        rw [e, Bool.or_assoc]
theorem any_cut1 (n lo hi : Nat) (r : Rg) (_hr : r.1 < r.2) (h : lo < hi) : (cut1 lo hi r).any (hasP n) = (hasP n r && !(hasP n (lo, hi))) := by
  rw [Bool.eq_iff_iff]
  unfold cut1
  repeat' split
  all_goals simp only [List.any_append, List.any_cons, List.any_nil, hasP, Bool.and_eq_true, Bool.or_eq_true, decide_eq_true_eq, Bool.not_eq_true', Bool.and_eq_false_iff, decide_eq_false_iff_not, Bool.or_false, Bool.false_or, Bool.false_eq_true, false_iff, not_and, not_or]
  all_goals first | omega | (intro h1; omega)
theorem any_cut (n lo hi : Nat) (h : lo < hi) : ∀ xs : List Rg, Norm xs → (cutRaw lo hi xs).any (hasP n) = (xs.any (hasP n) && !(hasP n (lo, hi)))
  | [], _ => by simp [cutRaw]
  | r :: xs, hn => by
    have e : cutRaw lo hi (r :: xs) = cut1 lo hi r ++ cutRaw lo hi xs := by simp [cutRaw]
    rw [e, List.any_append, any_cut1 n lo hi r hn.head.1.1 h, any_cut n lo hi h xs hn.tail, List.any_cons]
    cases hasP n r <;> cases xs.any (hasP n) <;> simp
theorem cut_none {lo hi : Nat} (h : hi ≤ lo) (xs : List Rg) : cutRaw lo hi xs = xs := by
  induction xs with
  | nil => simp [cutRaw]
  | cons r xs ih =>
    have e : cutRaw lo hi (r :: xs) = cut1 lo hi r ++ cutRaw lo hi xs := by simp [cutRaw]
    rw [e, ih, cut1, if_pos (.inl h)]
    rfl
theorem trim_all {most : Int} {xs : List Rg} (h : (xs.length : Int) ≤ most) : trimL most xs = xs := by
  unfold trimL
  rw [show xs.length - most.toNat = 0 by omega, List.drop_zero]
end Go.Proofs.Ytfdgamlakfkekaa
