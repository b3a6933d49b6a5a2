/- DERIVED. The buffer of bytes that go, in memory: what its calls turn. -/
import Derived.Test.YtkebjfaphmamjaaOutRd
namespace Go.Proofs.Ytkebjfaphmamjaa
open Go.RowKit

/-- From a beginning on: the buffer is as s, its blocks are those of the beginning, or new. -/
def OM (w0 w : World) (fp : Nat → Prop) (b : Nat) (s : OS) : Prop := ∃ fp', OAt w b s fp' ∧ Went fp fp' w0 w
theorem OM.refl {w : World} {fp : Nat → Prop} {b : Nat} {s : OS} (h : OAt w b s fp) : OM w w fp b s := ⟨fp, h, Went.refl _ _⟩
theorem OM.later {w0 w w' : World} {fp : Nat → Prop} {b : Nat} {s : OS} (h : OM w0 w fp b s) (hb : Below w.heap.size w w') : OM w0 w' fp b s := by
  obtain ⟨fp', h1, h2⟩ := h
  exact ⟨fp', h1.below hb, h2.later hb⟩
theorem OM.drew {w0 w : World} {fp : Nat → Prop} {b : Nat} {s : OS} (h : OM w0 w fp b s) : OM w0 w.drew fp b s := h.later (Below.refl _ _).drew
theorem OM.drewN {w0 w : World} {fp : Nat → Prop} {b : Nat} {s : OS} (h : OM w0 w fp b s) (n : Nat) : OM w0 (w.drewN n) fp b s := h.later (below_drewN (Below.refl _ _) n)
theorem om_turnD {w0 w w' : World} {fp : Nat → Prop} {b : Nat} {s : OS} {vb : Value} {ob : Option Nat} {c : Nat} {oc : Option Nat} {d : Nat} {od : Option Nat} {zs : List Rg} (h : OutAt w b s vb ob c oc d od) (hw : Went fp (OFp b c d ob oc od) w0 w) (t : Turned w d many od zs w') (hn : Norm zs) (hl : zs.length ≤ 100000) :
    OM w0 w' fp b { s with ys := zs } := by
  obtain ⟨od', h1, h2, h3⟩ := t
  obtain ⟨a1, a2, a3, a4⟩ := h.cd
  obtain ⟨b1, b2, b3, b4⟩ := h.bcd
  obtain ⟨e1, e2, e3, e4⟩ := h.obs
  have lt := h.lt
  have hnew : ∀ g, od' = some g → od = some g ∨ w.heap.size ≤ g := by
    intro g hg
    rcases h2 with rfl | rfl | ⟨g', rfl, h4⟩
    · exact .inl hg
    · cases hg
    · cases hg
      exact .inr h4
  refine ⟨OFp b c d ob oc od', ⟨vb, ob, c, oc, d, od', ⟨h3.keeps h.blk ?_, h.row.keeps h3 ?_, h.sx.keeps h3 ?_ ?_, h1, ⟨h.ok.len, h.ok.base, h.ok.sent, h.ok.nx, hn, h.ok.lx, hl, h.ok.bys⟩, ⟨a1, a2, ?_, ?_⟩, ⟨b1, b2, b3, ?_⟩, ⟨e1, e2, e3, ?_⟩⟩, rfl⟩, ⟨hw.upd.trans h3 (fun _ _ q => q) ?_, ?_⟩⟩
  · rintro (q | q)
    · exact b2 q
    · exact b4 q
  · rintro g hg (rfl | q)
    · exact e3 hg
    · exact (e4 g hg).2 q
  · rintro (q | q)
    · exact a1 q
    · exact a3 q
  · rintro g hg (rfl | q)
    · exact a2 hg
    · exact a4 g hg q
  · intro q
    rcases hnew c q with q | q
    · exact a3 q
    · have := h.sx.lt.1
      omega
  · intro g hg q
    rcases hnew g q with q | q
    · exact a4 g hg q
    · have := h.sx.lt.2 g hg
      omega
  · intro q
    rcases hnew b q with q | q
    · exact b4 q
    · have := heap_lt h.blk
      omega
  · intro g hg
    refine ⟨(e4 g hg).1, fun q => ?_⟩
    rcases hnew g q with q | q
    · exact (e4 g hg).2 q
    · have := h.row.lt g hg
      omega
  · intro j hj q
    have h5 : OFp b c d ob oc od j := by
      rcases q with rfl | q
      · exact .inr (.inr (.inl rfl))
      · exact .inr (.inr (.inr (.inr (.inr q))))
    rcases hw.new j h5 with q | q
    · exact q
    · omega
  · intro j hj
    have hs := hw.upd.size
    rcases hj with q | q | q | q | q | q
    · exact hw.new j (.inl q)
    · exact hw.new j (.inr (.inl q))
    · exact hw.new j (.inr (.inr (.inl q)))
    · exact hw.new j (.inr (.inr (.inr (.inl q))))
    · exact hw.new j (.inr (.inr (.inr (.inr (.inl q)))))
    · rcases hnew j q with q | q
      · exact hw.new j (.inr (.inr (.inr (.inr (.inr q)))))
      · right
        omega
theorem om_turnC {w0 w w' : World} {fp : Nat → Prop} {b : Nat} {s : OS} {vb : Value} {ob : Option Nat} {c : Nat} {oc : Option Nat} {d : Nat} {od : Option Nat} {zs : List Rg} (h : OutAt w b s vb ob c oc d od) (hw : Went fp (OFp b c d ob oc od) w0 w) (t : Turned w c many oc zs w') (hn : Norm zs) (hl : zs.length ≤ 100000) :
    OM w0 w' fp b { s with xs := zs } := by
  obtain ⟨oc', h1, h2, h3⟩ := t
  obtain ⟨a1, a2, a3, a4⟩ := h.cd
  obtain ⟨b1, b2, b3, b4⟩ := h.bcd
  obtain ⟨e1, e2, e3, e4⟩ := h.obs
  have hnew : ∀ g, oc' = some g → oc = some g ∨ w.heap.size ≤ g := by
    intro g hg
    rcases h2 with rfl | rfl | ⟨g', rfl, h4⟩
    · exact .inl hg
    · cases hg
    · cases hg
      exact .inr h4
  refine ⟨OFp b c d ob oc' od, ⟨vb, ob, c, oc', d, od, ⟨h3.keeps h.blk ?_, h.row.keeps h3 ?_, h1, h.sy.keeps h3 ?_ ?_, ⟨h.ok.len, h.ok.base, h.ok.sent, hn, h.ok.ny, hl, h.ok.ly, h.ok.bys⟩, ⟨a1, ?_, a3, ?_⟩, ⟨b1, b2, ?_, b4⟩, ⟨e1, e2, e3, ?_⟩⟩, rfl⟩, ⟨hw.upd.trans h3 (fun _ _ q => q) ?_, ?_⟩⟩
  · rintro (q | q)
    · exact b1 q
    · exact b3 q
  · rintro g hg (rfl | q)
    · exact e2 hg
    · exact (e4 g hg).1 q
  · rintro (q | q)
    · exact a1 q.symm
    · exact a2 q
  · rintro g hg (rfl | q)
    · exact a3 hg
    · exact a4 g q hg
  · intro q
    rcases hnew d q with q | q
    · exact a2 q
    · have := h.sy.lt.1
      omega
  · intro g hg q
    rcases hnew g hg with hg | hg
    · exact a4 g hg q
    · have := h.sy.lt.2 g q
      omega
  · intro q
    rcases hnew b q with q | q
    · exact b3 q
    · have := heap_lt h.blk
      omega
  · intro g hg
    refine ⟨fun q => ?_, (e4 g hg).2⟩
    rcases hnew g q with q | q
    · exact (e4 g hg).1 q
    · have := h.row.lt g hg
      omega
  · intro j hj q
    have h5 : OFp b c d ob oc od j := by
      rcases q with rfl | q
      · exact .inr (.inl rfl)
      · exact .inr (.inr (.inr (.inr (.inl q))))
    rcases hw.new j h5 with q | q
    · exact q
    · omega
  · intro j hj
    have hs := hw.upd.size
    rcases hj with q | q | q | q | q | q
    · exact hw.new j (.inl q)
    · exact hw.new j (.inr (.inl q))
    · exact hw.new j (.inr (.inr (.inl q)))
    · exact hw.new j (.inr (.inr (.inr (.inl q))))
    · rcases hnew j q with q | q
      · exact hw.new j (.inr (.inr (.inr (.inr (.inl q)))))
      · right
        omega
    · exact hw.new j (.inr (.inr (.inr (.inr (.inr q)))))
/-- Its own block, and its row, are set. -/
theorem om_set {w0 w w1 w' : World} {fp : Nat → Prop} {b : Nat} {s s' : OS} {vb vb' : Value} {ob ob' : Option Nat} {c : Nat} {oc : Option Nat} {d : Nat} {od : Option Nat} (h : OutAt w b s vb ob c oc d od) (hw : Went fp (OFp b c d ob oc od) w0 w)
    (h1 : Upd (fun j => ob = some j) w w1) (h2 : Upd (fun j => j = b) w1 w')
    (hblk : w'.heap[b]? = some (.cells #[vb', .int .u64 s'.base, .int .u64 s'.B.length, .int .u64 s'.sent, .pointer (some ⟨c, 0, none⟩), .pointer (some ⟨d, 0, none⟩), .bool s'.fi, .bool s'.es, .bool s'.ea, .bool s'.el] 51 (0, 0)))
    (hrow : SlO encB 1 5 w1 vb' ob' (s'.B.drop s'.base)) (hob : ob' = ob ∨ ob' = none ∨ ∃ g, ob' = some g ∧ w.heap.size ≤ g) (hx : s'.xs = s.xs) (hy : s'.ys = s.ys) (hok : s'.Ok) : OM w0 w' fp b s' := by
  obtain ⟨b1, b2, b3, b4⟩ := h.bcd
  obtain ⟨e1, e2, e3, e4⟩ := h.obs
  have hnew : ∀ g, ob' = some g → ob = some g ∨ w.heap.size ≤ g := by
    intro g hg
    rcases hob with rfl | rfl | ⟨g', rfl, h4⟩
    · exact .inl hg
    · cases hg
    · cases hg
      exact .inr h4
  have hap : ∀ j, j < w.heap.size → ob ≠ some j → ob' ≠ some j := by
    intro j hj h1 h2
    rcases hnew j h2 with q | q
    · exact h1 q
    · omega
  have hb := heap_lt h.blk
  have h12 : Upd (fun j => ob = some j ∨ j = b) w w' := h1.trans h2 (fun _ _ q => .inl q) (fun _ _ q => .inr q)
  refine ⟨OFp b c d ob' oc od, ⟨vb', ob', c, oc, d, od, ⟨hblk, hrow.keeps h2 ?_, ?_, ?_, hok, h.cd, h.bcd, ⟨hap b hb e1, hap c h.sx.lt.1 e2, hap d h.sy.lt.1 e3, ?_⟩⟩, rfl⟩, ⟨hw.upd.trans h12 (fun _ _ q => q) ?_, ?_⟩⟩
  · rintro g hg rfl
    exact hap _ hb e1 hg
  · rw [hx]
    refine h.sx.keeps h12 ?_ ?_
    · rintro (q | q)
      · exact e2 q
      · exact b1 q.symm
    · rintro g hg (q | rfl)
      · exact (e4 g q).1 hg
      · exact b3 hg
  · rw [hy]
    refine h.sy.keeps h12 ?_ ?_
    · rintro (q | q)
      · exact e3 q
      · exact b2 q.symm
    · rintro g hg (q | rfl)
      · exact (e4 g q).2 hg
      · exact b4 hg
  · intro g hg
    refine ⟨fun q => ?_, fun q => ?_⟩
    · rcases hnew g hg with hg | hg
      · exact (e4 g hg).1 q
      · have := h.sx.lt.2 g q
        omega
    · rcases hnew g hg with hg | hg
      · exact (e4 g hg).2 q
      · have := h.sy.lt.2 g q
        omega
  · intro j hj q
    have h5 : OFp b c d ob oc od j := by
      rcases q with q | rfl
      · exact .inr (.inr (.inr (.inl q)))
      · exact .inl rfl
    rcases hw.new j h5 with q | q
    · exact q
    · omega
  · intro j hj
    have hs := hw.upd.size
    rcases hj with q | q | q | q | q | q
    · exact hw.new j (.inl q)
    · exact hw.new j (.inr (.inl q))
    · exact hw.new j (.inr (.inr (.inl q)))
    · rcases hnew j q with q | q
      · exact hw.new j (.inr (.inr (.inr (.inl q))))
      · right
        omega
    · exact hw.new j (.inr (.inr (.inr (.inr (.inl q)))))
    · exact hw.new j (.inr (.inr (.inr (.inr (.inr q)))))
end Go.Proofs.Ytkebjfaphmamjaa
