/- DERIVED. The sender: plain, in memory. -/
import Derived.Laws.Rows
import Derived.Deep.RegionLaw
import Derived.Deep.MidRow
import Derived.Test.YtncfbaabhceeoaaQE3
import Derived.Test.YtncfbaabhceeoaaQE5
import Derived.Test.YtncfbaabhceeoaaQE6
import Derived.Test.YtncfbaabhceeoaaQE7
import Derived.Test.YtncfbaabhceeoaaQE8
import Derived.Test.YtncfbaabhceeoaaQE9
set_option linter.all false
namespace Go.Proofs.Ytncfbaabhceeoaa
open Go.RowKit

/-- A Reset frame, or the zero one. -/
def resetF (id : Nat) : Option (Nat × Nat) → Fr
  | none => ⟨0, 0, 0, .slice none 0 0, false, 0, 0, 0, 0, 0, .slice none 0 0, 0, 0, 0, 0, 0, 0, 0, 0⟩
  | some x => ⟨4, id, 0, .slice none 0 0, false, 0, x.1, x.2, 0, 0, .slice none 0 0, 0, 0, 0, 0, 0, 0, 0, 0⟩
structure SS where
  id : Nat
  st : Nat
  lim : Nat
  rs : Option (Nat × Nat)
  rq : Bool
  os : OS
def SS.new (id : Nat) : SS := ⟨id, 1, 0, none, false, OS.zero⟩
def SS.closed (s : SS) : Bool := s.os.fi || decide (5 ≤ s.st)
structure SS.Ok (s : SS) : Prop where
  id : s.id < 18446744073709551616
  st : 1 ≤ s.st ∧ s.st ≤ 6
  lim : s.lim < 18446744073709551616
  rs : ∀ x, s.rs = some x → x.1 < 18446744073709551616 ∧ x.2 < 18446744073709551616
def scells (s : SS) (b : Nat) (f : Fr) : Array Value := #[.int .u64 s.id, .int .i64 s.st, .bool s.os.fi, .int .u64 s.lim,
  .int .i64 f.kd, .int .u64 f.sid, .int .u64 f.off, f.vd, .bool f.fin, .int .u64 f.lim, .int .u64 f.code, .int .u64 f.fnl, .int .u64 f.seq, .int .u64 f.dly, f.vr,
  .int .u8 f.c0, .int .u8 f.c1, .int .u8 f.c2, .int .u8 f.c3, .int .u8 f.c4, .int .u8 f.c5, .int .u8 f.c6, .int .u8 f.c7, .bool s.rq, .pointer (some ⟨b, 0, none⟩)]
structure SdAt0 (w : World) (r : Nat) (s : SS) (b : Nat) (fb : Nat → Prop) : Prop where
  blk : w.heap[r]? = some (.cells (scells s b (resetF s.id s.rs)) 86 (0, 0))
  buf : OAt w b s.os fb
  ne : ¬ fb r
  ok : s.Ok
def SdAt (w : World) (r : Nat) (s : SS) (fp : Nat → Prop) : Prop := ∃ b fb, SdAt0 w r s b fb ∧ fp = fun j => j = r ∨ fb j
theorem SdAt.keeps {F fp : Nat → Prop} {w w' : World} {r : Nat} {s : SS} (h : SdAt w r s fp) (hu : Upd F w w') (hF : ∀ k, fp k → ¬ F k) : SdAt w' r s fp := by
  obtain ⟨b, fb, h, rfl⟩ := h
  exact ⟨b, fb, ⟨hu.keeps h.blk (hF r (.inl rfl)), h.buf.keeps hu (fun k hk => hF k (.inr hk)), h.ne, h.ok⟩, rfl⟩
theorem SdAt.lt {fp : Nat → Prop} {w : World} {r : Nat} {s : SS} (h : SdAt w r s fp) : fp r ∧ ∀ k, fp k → k < w.heap.size := by
  obtain ⟨b, fb, h, rfl⟩ := h
  refine ⟨.inl rfl, ?_⟩
  rintro k (rfl | hk)
  · exact heap_lt h.blk
  · exact h.buf.lt.2 k hk
theorem SdAt.below {fp : Nat → Prop} {w w' : World} {r : Nat} {s : SS} (h : SdAt w r s fp) (hb : Below w.heap.size w w') : SdAt w' r s fp :=
  h.keeps (Upd.below hb) (fun k hk => by have := h.lt.2 k hk; omega)
theorem SdAt.drewN {fp : Nat → Prop} {w : World} {r : Nat} {s : SS} (h : SdAt w r s fp) (n : Nat) : SdAt (w.drewN n) r s fp := h.below (below_drewN (Below.refl _ _) n)
theorem SdAt.ok {fp : Nat → Prop} {w : World} {r : Nat} {s : SS} (h : SdAt w r s fp) : s.Ok := by
  obtain ⟨b, fb, h, _⟩ := h
  exact h.ok
theorem SdAt.oOk {fp : Nat → Prop} {w : World} {r : Nat} {s : SS} (h : SdAt w r s fp) : s.os.Ok := by
  obtain ⟨b, fb, h, _⟩ := h
  exact h.buf.ok
theorem SdAt.cells {fp : Nat → Prop} {w : World} {r : Nat} {s : SS} (h : SdAt w r s fp) : w.cell? ⟨r, 0, none⟩ = some (.int .u64 s.id) ∧ w.cell? ⟨r, 1, none⟩ = some (.int .i64 s.st) ∧ w.cell? ⟨r, 2, none⟩ = some (.bool s.os.fi) ∧ w.cell? ⟨r, 3, none⟩ = some (.int .u64 s.lim) ∧
    w.cell? ⟨r, 23, none⟩ = some (.bool s.rq) := by
  obtain ⟨b, fb, h, _⟩ := h
  exact ⟨(cell_at h.blk 0).trans rfl, (cell_at h.blk 1).trans rfl, (cell_at h.blk 2).trans rfl, (cell_at h.blk 3).trans rfl, (cell_at h.blk 23).trans rfl⟩
theorem SdAt.ptr {fp : Nat → Prop} {w : World} {r : Nat} {s : SS} (h : SdAt w r s fp) : ∃ b fb, OAt w b s.os fb ∧ (∀ j, fb j → fp j) ∧ ¬ fb r ∧ w.cell? ⟨r, 24, none⟩ = some (.pointer (some ⟨b, 0, none⟩)) := by
  obtain ⟨b, fb, h, rfl⟩ := h
  exact ⟨b, fb, h.buf, fun j hj => .inr hj, h.ne, (cell_at h.blk 24).trans rfl⟩
/-- What a call turns: the sender is as s', its blocks are those of the call's beginning, or new. -/
def SdM (w0 w : World) (fp : Nat → Prop) (r : Nat) (s : SS) : Prop := ∃ fp', SdAt w r s fp' ∧ Went fp fp' w0 w
theorem SdM.refl {w : World} {fp : Nat → Prop} {r : Nat} {s : SS} (h : SdAt w r s fp) : SdM w w fp r s := ⟨fp, h, Went.refl _ _⟩
theorem SdM.later {w0 w w' : World} {fp : Nat → Prop} {r : Nat} {s : SS} (h : SdM w0 w fp r s) (hb : Below w.heap.size w w') : SdM w0 w' fp r s := by
  obtain ⟨fp', h1, h2⟩ := h
  exact ⟨fp', h1.below hb, h2.later hb⟩
theorem SdM.drewN {w0 w : World} {fp : Nat → Prop} {r : Nat} {s : SS} (h : SdM w0 w fp r s) (n : Nat) : SdM w0 (w.drewN n) fp r s := h.later (below_drewN (Below.refl _ _) n)
theorem SdM.drew {w0 w : World} {fp : Nat → Prop} {r : Nat} {s : SS} (h : SdM w0 w fp r s) : SdM w0 w.drew fp r s := h.later (Below.refl _ _).drew
/-- All of new blocks, from a beginning on. -/
def SdMine (W w : World) (r : Nat) (s : SS) : Prop := ∃ fp, SdAt w r s fp ∧ (∀ k, fp k → W.heap.size ≤ k) ∧ Below W.heap.size W w
theorem SdMine.below {W w : World} {r : Nat} {s : SS} (h : SdMine W w r s) : Below W.heap.size W w := by
  obtain ⟨_, _, _, h⟩ := h
  exact h
theorem SdMine.later {W w w' : World} {r : Nat} {s : SS} (h : SdMine W w r s) (hb : Below w.heap.size w w') : SdMine W w' r s := by
  obtain ⟨fp, h1, h2, h3⟩ := h
  exact ⟨fp, h1.below hb, h2, below_call h3 h3.size hb⟩
theorem SdMine.drewN {W w : World} {r : Nat} {s : SS} (h : SdMine W w r s) (n : Nat) : SdMine W (w.drewN n) r s := h.later (below_drewN (Below.refl _ _) n)
theorem sdm_mine {W w w' : World} {r : Nat} {s' : SS} {fp : Nat → Prop} (hn : ∀ k, fp k → W.heap.size ≤ k) (hb : Below W.heap.size W w) (m : SdM w w' fp r s') : SdMine W w' r s' := by
  obtain ⟨fp', h1, h2⟩ := m
  have hs := hb.size
  exact ⟨fp', h1, fun k hk => by
    rcases h2.new k hk with q | q
    · exact hn k q
    · omega, Upd.belowOf hb h2.upd (fun k hk q => by have := hn k q; omega)⟩
/-- The buffer turned, and then cells of the sender's own block: as s'. -/
theorem sdm_of {w w1 w2 : World} {r : Nat} {s s' : SS} {b : Nat} {fb fp : Nat → Prop} (h : SdAt0 w r s b fb) (hfp : fp = fun j => j = r ∨ fb j) (m : OM w w1 fb b s'.os) (hu : Upd (fun j => j = r) w1 w2)
    (hc : w2.heap[r]? = some (.cells (scells s' b (resetF s'.id s'.rs)) 86 (0, 0))) (ok : s'.Ok) : SdM w w2 fp r s' := by
  obtain ⟨fb', h1, h2⟩ := m
  have hrw := heap_lt h.blk
  have hne : ¬ fb' r := fun q => by
    rcases h2.new r q with e | e
    · exact h.ne e
    · omega
  subst hfp
  refine ⟨fun j => j = r ∨ fb' j, ⟨b, fb', ⟨hc, h1.keeps hu (fun k hk e => hne (e ▸ hk)), hne, ok⟩, rfl⟩, ⟨?_, ?_⟩⟩
  · exact (h2.upd.mono (fun k _ hk => .inr hk)).trans hu (fun _ _ hk => hk) (fun i hi q => .inl q)
  · rintro g (rfl | hg)
    · exact .inl (.inl rfl)
    · rcases h2.new g hg with e | e
      · exact .inl (.inr e)
      · exact .inr e
/-- Cells of the sender's own block, the buffer turned, and cells again: as s'. -/
theorem sdm_two {w w1 w2 w3 : World} {r : Nat} {s s' : SS} {b : Nat} {fb fp : Nat → Prop} (h : SdAt0 w r s b fb) (hfp : fp = fun j => j = r ∨ fb j) (hu1 : Upd (fun j => j = r) w w1) (m : OM w1 w2 fb b s'.os) (hu : Upd (fun j => j = r) w2 w3)
    (hc : w3.heap[r]? = some (.cells (scells s' b (resetF s'.id s'.rs)) 86 (0, 0))) (ok : s'.Ok) : SdM w w3 fp r s' := by
  obtain ⟨fb', h1, h2⟩ := m
  have hrw := heap_lt h.blk
  have hs1 := hu1.size
  have hne : ¬ fb' r := fun q => by
    rcases h2.new r q with e | e
    · exact h.ne e
    · omega
  subst hfp
  refine ⟨fun j => j = r ∨ fb' j, ⟨b, fb', ⟨hc, h1.keeps hu (fun k hk e => hne (e ▸ hk)), hne, ok⟩, rfl⟩, ⟨?_, ?_⟩⟩
  · exact ((hu1.mono (fun k _ hk => .inl hk)).trans (h2.upd.mono (fun k _ hk => .inr hk)) (fun _ _ hk => hk) (fun _ _ hk => hk)).trans hu (fun _ _ hk => hk) (fun i hi q => .inl q)
  · rintro g (rfl | hg)
    · exact .inl (.inl rfl)
    · rcases h2.new g hg with e | e
      · exact .inl (.inr e)
      · right; omega
theorem SdAt0.own {w w1 : World} {r : Nat} {s : SS} {b : Nat} {fb : Nat → Prop} (h : SdAt0 w r s b fb) (hu1 : Upd (fun j => j = r) w w1) : OAt w1 b s.os fb :=
  h.buf.keeps hu1 (fun k hk e => h.ne (e ▸ hk))
/-- The block behind a turn of the buffer. -/
theorem SdAt0.later {w w1 : World} {r : Nat} {s : SS} {b : Nat} {fb : Nat → Prop} {o : OS} (h : SdAt0 w r s b fb) (m : OM w w1 fb b o) : w1.heap[r]? = some (.cells (scells s b (resetF s.id s.rs)) 86 (0, 0)) := by
  obtain ⟨fb', h1, h2⟩ := m
  exact h2.upd.keeps h.blk h.ne
theorem SdM.trans {w0 w w' : World} {fp : Nat → Prop} {r : Nat} {s s' : SS} (m : SdM w0 w fp r s) (h : ∀ fp', SdAt w r s fp' → SdM w w' fp' r s') : SdM w0 w' fp r s' := by
  obtain ⟨fp', h1, h2⟩ := m
  obtain ⟨fp2, h3, h4⟩ := h fp' h1
  exact ⟨fp2, h3, h2.trans h4⟩
theorem SdAt.setSt {w : World} {fp : Nat → Prop} {r : Nat} {s : SS} (h : SdAt w r s fp) (k : Nat) (hk : 1 ≤ k ∧ k ≤ 6) : SdM w (w.setCell ⟨r, 1, none⟩ (.int .i64 k)) fp r { s with st := k } := by
  obtain ⟨b, fb, h0, hfp⟩ := h
  exact sdm_of (s' := { s with st := k }) h0 hfp (OM.refl h0.buf) ((Upd.refl (fun j => j = r) w).setCell ⟨r, 1, none⟩ (.inl rfl) _) (set_at h0.blk 1 _) ⟨h0.ok.id, hk, h0.ok.lim, h0.ok.rs⟩
theorem SdAt.setRq {w : World} {fp : Nat → Prop} {r : Nat} {s : SS} (h : SdAt w r s fp) (x : Bool) : SdM w (w.setCell ⟨r, 23, none⟩ (.bool x)) fp r { s with rq := x } := by
  obtain ⟨b, fb, h0, hfp⟩ := h
  exact sdm_of (s' := { s with rq := x }) h0 hfp (OM.refl h0.buf) ((Upd.refl (fun j => j = r) w).setCell ⟨r, 23, none⟩ (.inl rfl) _) (set_at h0.blk 23 _) ⟨h0.ok.id, h0.ok.st, h0.ok.lim, h0.ok.rs⟩
theorem SdM.setSt {w0 w : World} {fp : Nat → Prop} {r : Nat} {s : SS} (h : SdM w0 w fp r s) (k : Nat) (hk : 1 ≤ k ∧ k ≤ 6) : SdM w0 (w.setCell ⟨r, 1, none⟩ (.int .i64 k)) fp r { s with st := k } := h.trans fun _ h => h.setSt k hk
theorem SdM.setRq {w0 w : World} {fp : Nat → Prop} {r : Nat} {s : SS} (h : SdM w0 w fp r s) (x : Bool) : SdM w0 (w.setCell ⟨r, 23, none⟩ (.bool x)) fp r { s with rq := x } := h.trans fun _ h => h.setRq x
theorem SdM.cell1 {w0 w : World} {fp : Nat → Prop} {r : Nat} {s : SS} (h : SdM w0 w fp r s) : w.cell? ⟨r, 1, none⟩ = some (.int .i64 s.st) ∧ w.frozen? ⟨r, 1, none⟩ = false ∧ w.cell? ⟨r, 23, none⟩ = some (.bool s.rq) ∧ w.frozen? ⟨r, 23, none⟩ = false := by
  obtain ⟨fp', ⟨b, fb, h0, _⟩, _⟩ := h
  exact ⟨(cell_at h0.blk 1).trans rfl, free_at h0.blk 1, (cell_at h0.blk 23).trans rfl, free_at h0.blk 23⟩
theorem SdM.ptr {w0 w : World} {fp : Nat → Prop} {r : Nat} {s : SS} (h : SdM w0 w fp r s) : ∃ b fb, OAt w b s.os fb ∧ w.cell? ⟨r, 24, none⟩ = some (.pointer (some ⟨b, 0, none⟩)) := by
  obtain ⟨fp', h1, _⟩ := h
  obtain ⟨b, fb, h2, _, _, h3⟩ := h1.ptr
  exact ⟨b, fb, h2, h3⟩
end Go.Proofs.Ytncfbaabhceeoaa

/- DERIVED. Walks of sender's New, State, Sent, Length, closed, Write, Finish, Limit. -/
namespace Go.Proofs.Ytncfbaabhceeoaa
open Go.RowKit

set_option maxRecDepth 100000 in
set_option maxHeartbeats 1000000 in
theorem sdnew_any (id : Nat) (w : World) (hid : id < 18446744073709551616) :
    Calls Try.prog 14 #[.int .u64 id] w fun e w' => ∃ r, e = .returned (.pointer (some ⟨r, 0, none⟩)) ∧ SdMine w w' r (SS.new id) := by
  have HB := Lib.hid hid
  go_enter Try.func14, Try.ntmps14
  go_wp2_with fail
  refine (onew_any _).mono ?_
  rintro e w1 ⟨b, fp, rfl, hi, hn, hb⟩
  have HI := Lib.hid (And.intro hi (And.intro hn hb))
  clear hi hn hb
  go_wp2_with fail
  go_ret
  obtain ⟨hi, hn, hb⟩ := HI.out
  have hlt := hi.lt.2
  refine ⟨w1.heap.size, rfl, _, ⟨b, fp, ⟨?_, hi.below ((Below.refl _ _).alloc (Nat.le_refl _) _), fun q => by have := hlt _ q; omega, ⟨HB.out, ⟨by show 1 ≤ 1; omega, by show 1 ≤ 6; omega⟩, by show 0 < _; omega, fun x hx => by cases hx⟩⟩, rfl⟩, ?_, hb.alloc hb.size _⟩
  · exact (alloc_at _ _).trans rfl
  · rintro k (rfl | q)
    · exact hb.size
    · exact hn k q
set_option maxHeartbeats 1000000 in
theorem sstate_q (r : Nat) (s : SS) (fp : Nat → Prop) (w : World) (h : SdAt w r s fp) : Calls Try.prog 26 #[.pointer (some ⟨r, 0, none⟩)] w fun e w' => e = .returned (.int .i64 s.st) ∧ ∃ n, w' = w.drewN n := by
  obtain ⟨_, c, _⟩ := h.cells
  clear h
  go_enter Try.func26, Try.ntmps26
  go_wp2_with fail
  go_ret
  exact ⟨rfl, 0, rfl⟩
set_option maxHeartbeats 1000000 in
theorem ssent_q (r : Nat) (s : SS) (fp : Nat → Prop) (w : World) (h : SdAt w r s fp) : Calls Try.prog 22 #[.pointer (some ⟨r, 0, none⟩)] w fun e w' => e = .returned (.int .u64 s.os.sent) ∧ ∃ n, w' = w.drewN n := by
  obtain ⟨b, fb, hb, _, _, c⟩ := h.ptr
  have HB := Lib.hid hb
  clear h hb
  go_enter Try.func22, Try.ntmps22
  go_wp2_with fail
  refine (osent_q b s.os fb _ (by exact HB.out)).mono ?_
  rintro e w1 ⟨rfl, q, rfl⟩
  go_wp2_with fail
  go_ret
  exact ⟨rfl, q, rfl⟩
set_option maxHeartbeats 1000000 in
theorem sclosed_q (r : Nat) (s : SS) (fp : Nat → Prop) (w : World) (h : SdAt w r s fp) : Calls Try.prog 34 #[.pointer (some ⟨r, 0, none⟩)] w fun e w' => e = .returned (.bool s.closed) ∧ ∃ n, w' = w.drewN n := by
  obtain ⟨_, c1, c2, _⟩ := h.cells
  clear h
  unfold SS.closed
  generalize s.st = st at *
  generalize s.os.fi = fi at *
  cases fi
  · go_enter Try.func34, Try.ntmps34
    go_wp2_with fail
    go_ret
    refine ⟨?_, 0, rfl⟩
    congr 2
    simp
    try omega
  · go_enter Try.func34, Try.ntmps34
    go_wp2_with fail
    go_ret
    exact ⟨rfl, 0, rfl⟩
set_option maxHeartbeats 1000000 in
theorem slimit_any (r : Nat) (s : SS) (fp : Nat → Prop) (n : Nat) (w : World) (h : SdAt w r s fp) (hn : n < 18446744073709551616) :
    Calls Try.prog 19 #[.pointer (some ⟨r, 0, none⟩), .int .u64 n] w fun e w' => e = .returned (.tuple #[]) ∧ SdM w w' fp r { s with lim := max s.lim n } := by
  obtain ⟨_, _, _, c3, _⟩ := h.cells
  obtain ⟨b, fb, h0, hfp⟩ := h
  have hl := h0.ok.lim
  have f3 := free_at h0.blk 3
  obtain ⟨m, hm, hm2⟩ : ∃ m, max s.lim n = m ∧ m < 18446744073709551616 := ⟨_, rfl, by omega⟩
  have HM := Lib.hid (show SdM w (w.setCell ⟨r, 3, none⟩ (.int .u64 m)) fp r { s with lim := max s.lim n } from by
    rw [hm]
    exact sdm_of (s' := { s with lim := m }) h0 hfp ⟨fb, h0.buf, Went.refl _ _⟩ ((Upd.refl (fun j => j = r) w).setCell ⟨r, 3, none⟩ (.inl rfl) _) (set_at h0.blk 3 _) ⟨h0.ok.id, h0.ok.st, hm2, h0.ok.rs⟩)
  have HMM := Lib.hid hm
  generalize s.lim = lim at *
  clear h0 hfp hm
  go_enter Try.func19, Try.ntmps19
  go_wp2_with fail
  · obtain rfl : m = n := by have := HMM.out; omega
    refine bodyPost_end (results_none rfl _ _ _) rfl ?_
    exact ⟨rfl, HM.out⟩
  · obtain rfl : m = lim := by have := HMM.out; omega
    refine bodyPost_end (results_none rfl _ _ _) rfl ?_
    exact ⟨rfl, HM.out⟩
set_option maxRecDepth 100000 in
set_option maxHeartbeats 1000000 in
theorem sfinish_any (r : Nat) (s : SS) (fp : Nat → Prop) (w : World) (h : SdAt w r s fp) :
    Calls Try.prog 17 #[.pointer (some ⟨r, 0, none⟩)] w fun e w' => e = .returned (.int .i64 (if s.closed then 24 else 0 : Nat)) ∧ SdM w w' fp r (if s.closed then s else { s with os := { s.os with fi := true } }) := by
  have H := Lib.hid h
  obtain ⟨b, fb, h0, hfp⟩ := h
  have f2 := free_at h0.blk 2
  have H0 := Lib.hid h0
  have c2 : w.cell? ⟨r, 2, none⟩ = some (.bool s.os.fi) := (cell_at h0.blk 2).trans rfl
  have c24 : w.cell? ⟨r, 24, none⟩ = some (.pointer (some ⟨b, 0, none⟩)) := (cell_at h0.blk 24).trans rfl
  have HFP := Lib.hid hfp
  clear h0 hfp
  cases hcl : s.closed
  · go_enter Try.func17, Try.ntmps17
    go_wp2_with fail
    refine (sclosed_q r s fp _ (by exact H.out)).mono ?_
    rw [hcl]
    rintro e w1 ⟨rfl, q, rfl⟩
    go_wp2_with fail
    have HU := Lib.hid ((Upd.refl (fun j => j = r) w).drewN q |>.setCell ⟨r, 2, none⟩ (.inl rfl) (.bool true))
    refine (ofinish_any b s.os fb _ (by exact H0.out.own HU.out)).mono ?_
    rintro e w2 ⟨rfl, hm⟩
    have hc : w2.heap[r]? = some (.cells (scells { s with os := { s.os with fi := true } } b (resetF s.id s.rs)) 86 (0, 0)) := by
      obtain ⟨fb', h1, h2⟩ := hm
      exact h2.upd.keeps (set_at (show (w.drewN q).heap[r]? = _ from H0.out.blk) 2 (.bool true)) H0.out.ne
    have HM := Lib.hid (sdm_two (s' := { s with os := { s.os with fi := true } }) H0.out HFP.out HU.out hm (Upd.refl _ _) hc ⟨H0.out.ok.id, H0.out.ok.st, H0.out.ok.lim, H0.out.ok.rs⟩)
    clear hc hm
    go_wp2_with fail
    go_ret
    exact ⟨rfl, HM.out⟩
  · go_enter Try.func17, Try.ntmps17
    go_wp2_with fail
    refine (sclosed_q r s fp _ (by exact H.out)).mono ?_
    rw [hcl]
    rintro e w1 ⟨rfl, q, rfl⟩
    go_wp2_with fail
    go_ret
    exact ⟨rfl, SdM.drewN (SdM.refl H.out) q⟩
end Go.Proofs.Ytncfbaabhceeoaa

/- DERIVED. Walks of sender's Write, Reset. -/
namespace Go.Proofs.Ytncfbaabhceeoaa
open Go.RowKit

def SS.wrN (s : SS) (n : Nat) : Nat × Nat := if s.closed then (0, 24) else if 0 < n ∧ s.os.room = 0 then (0, 26) else (min n s.os.room, 0)
def SS.wr (s : SS) (d : List Nat) : SS := if s.closed then s else { s with os := s.os.write d }
theorem write_none {s : OS} {d : List Nat} (h : s.room = 0) : s.write d = s := by
  unfold OS.write
  rw [h, Nat.min_zero, List.take_zero, List.append_nil]
set_option maxRecDepth 100000 in
set_option maxHeartbeats 1000000 in
theorem swrite_any (r : Nat) (s : SS) (fp : Nat → Prop) (vd : Value) (dd : List Nat) (w : World) {B : Nat} (h : SdAt w r s fp) (hd : Vw encB w B vd dd) (hB : B ≤ w.heap.size) (hby : Bys dd) (hroom : s.os.B.length ≤ s.os.base + 2048) (hl1 : dd.length ≤ 1000000) (hl2 : s.os.B.length ≤ 1000000) :
    Calls Try.prog 16 #[.pointer (some ⟨r, 0, none⟩), vd] w fun e w' => e = .returned (.tuple #[.int .i64 (s.wrN dd.length).1, .int .i64 (s.wrN dd.length).2]) ∧ SdM w w' fp r (s.wr dd) := by
  have H := Lib.hid h
  obtain ⟨b, fb, h0, hfp⟩ := h
  have H0 := Lib.hid h0
  have c24 : w.cell? ⟨r, 24, none⟩ = some (.pointer (some ⟨b, 0, none⟩)) := (cell_at h0.blk 24).trans rfl
  have HFP := Lib.hid hfp
  obtain ⟨od, capd, rfl, hc1, hc2⟩ := hd.shape
  have HY := Lib.hid (And.intro hB (And.intro hby (And.intro hroom (And.intro hl1 hl2))))
  obtain ⟨n, hn⟩ : ∃ n, dd.length = n := ⟨_, rfl⟩
  rw [hn] at hc1 hl1 hd ⊢
  have HD := Lib.hid hd
  clear h0 hfp hd hby hroom hl2 hB
  have HN := Lib.hid hn
  clear hn
  obtain ⟨a, c, hac⟩ : ∃ a c, s.wrN n = (a, c) := ⟨_, _, rfl⟩
  rw [hac]
  have HAC := Lib.hid hac
  clear hac
  cases hcl : s.closed
  · have HCL := Lib.hid hcl
    have HW := Lib.hid (show ∀ W W', Below w.heap.size w W → OM W W' fb b (s.os.write dd) → SdM w W' fp r (s.wr dd) from fun W W' hb hm => by
      obtain ⟨fb', h1, h2⟩ := hm
      have hm2 : OM w W' fb b (s.os.write dd) := ⟨fb', h1, h2.first hb⟩
      have e2 : s.wr dd = { s with os := s.os.write dd } := by unfold SS.wr; rw [HCL.out]; rfl
      rw [e2]
      exact sdm_of (s' := { s with os := s.os.write dd }) H0.out HFP.out hm2 (Upd.refl _ _) (H0.out.later hm2) ⟨H0.out.ok.id, H0.out.ok.st, H0.out.ok.lim, H0.out.ok.rs⟩)
    obtain ⟨rm, hrm⟩ : ∃ rm, s.os.room = rm := ⟨_, rfl⟩
    have hrb : rm ≤ 2048 := by
      rw [← hrm]
      unfold OS.room
      split <;> omega
    have HA1 := Lib.hid (show 0 < n ∧ rm = 0 → a = 0 ∧ c = 26 from fun q => by
      have := HAC.out
      unfold SS.wrN at this
      rw [HCL.out, hrm, if_neg (by simp), if_pos q] at this
      cases this
      exact ⟨rfl, rfl⟩)
    have HA2 := Lib.hid (show ¬ (0 < n ∧ rm = 0) → a = min n rm ∧ c = 0 from fun q => by
      have := HAC.out
      unfold SS.wrN at this
      rw [HCL.out, hrm, if_neg (by simp), if_neg q] at this
      cases this
      exact ⟨rfl, rfl⟩)
    have HRM := Lib.hid hrm
    clear hrm hcl HAC
    go_enter Try.func16, Try.ntmps16
    go_wp2_with fail
    refine (sclosed_q r s fp _ (by exact H.out)).mono ?_
    rw [HCL.out]
    rintro e w1 ⟨rfl, q, rfl⟩
    by_cases hp : 0 < n
    · go_wp2_with fail
      refine (oroom_q b s.os fb _ (by exact (H0.out.buf.drewN q)) (by exact HY.out.2.2.1)).mono ?_
      rw [HRM.out]
      rintro e w1 ⟨rfl, q2, rfl⟩
      by_cases hz : rm = 0
      · subst hz
        obtain ⟨rfl, rfl⟩ := HA1.out ⟨hp, rfl⟩
        go_wp2_with fail
        go_ret2
        refine ⟨rfl, HW.out w _ (Below.refl _ _) ?_⟩
        rw [write_none HRM.out]
        exact (OM.refl H0.out.buf).later (below_drewN (Below.refl _ _) _)
      · obtain ⟨rfl, rfl⟩ := HA2.out (fun x => hz x.2)
        go_wp2_with fail
        refine (owrite_any b s.os fb (.slice od n capd) dd _ (by exact H0.out.buf.drewN (q + q2)) (by exact (HD.out.below (below_drewN (Below.refl _ _) (q + q2)))) (by exact HY.out.1) HY.out.2.1 HY.out.2.2.1 HY.out.2.2.2.1 HY.out.2.2.2.2).mono ?_
        rw [HRM.out, HN.out]
        rintro e w2 ⟨rfl, hm⟩
        have HM := Lib.hid (HW.out _ _ (below_drewN (Below.refl _ _) _) hm)
        clear hm
        go_wp2_with fail
        go_ret2
        exact ⟨rfl, HM.out⟩
    · obtain ⟨rfl, rfl⟩ := HA2.out (fun x => hp x.1)
      go_wp2_with fail
      refine (owrite_any b s.os fb (.slice od n capd) dd _ (by exact H0.out.buf.drewN q) (by exact (HD.out.below (below_drewN (Below.refl _ _) _))) (by exact HY.out.1) HY.out.2.1 HY.out.2.2.1 HY.out.2.2.2.1 HY.out.2.2.2.2).mono ?_
      rw [HRM.out, HN.out]
      rintro e w2 ⟨rfl, hm⟩
      have HM := Lib.hid (HW.out _ _ (below_drewN (Below.refl _ _) _) hm)
      clear hm
      go_wp2_with fail
      go_ret2
      exact ⟨rfl, HM.out⟩
  · obtain ⟨rfl, rfl⟩ : a = 0 ∧ c = 24 := by
      have := HAC.out
      unfold SS.wrN at this
      rw [hcl] at this
      cases this
      exact ⟨rfl, rfl⟩
    have e2 : s.wr dd = s := by unfold SS.wr; rw [hcl]; rfl
    rw [e2]
    go_enter Try.func16, Try.ntmps16
    go_wp2_with fail
    refine (sclosed_q r s fp _ (by exact H.out)).mono ?_
    rw [hcl]
    rintro e w1 ⟨rfl, q, rfl⟩
    go_wp2_with fail
    go_ret2
    exact ⟨rfl, SdM.drewN (SdM.refl H.out) q⟩
end Go.Proofs.Ytncfbaabhceeoaa

/- DERIVED. Walk of sender's Reset (printed by mksndreset.py). -/
namespace Go.Proofs.Ytncfbaabhceeoaa
open Go.RowKit

/-- Cells laid over a row from an offset on. -/
def putAll (cs : Array Value) : Nat → List Value → Array Value
  | _, [] => cs
  | o, v :: l => putAll (cs.setIfInBounds o v) (o + 1) l
theorem setCells_at {b : Nat} {t : TypeId} {z : Nat × Nat} : ∀ (vs : List Value) (o : Nat) (w : World) (cs : Array Value), w.heap[b]? = some (.cells cs t z) → (w.setCells b o vs).heap[b]? = some (.cells (putAll cs o vs) t z)
  | [], _, _, _, h => h
  | v :: l, o, w, cs, h => setCells_at l (o + 1) _ _ (set_at h o v)
theorem upd_setCells {F : Nat → Prop} {b : Nat} (hb : F b) : ∀ (vs : List Value) (o : Nat) (a w : World), Upd F a w → Upd F a (w.setCells b o vs)
  | [], _, _, _, h => h
  | v :: l, o, a, w, h => upd_setCells hb l (o + 1) a _ (h.setCell ⟨b, o, none⟩ (.inl hb) v)
theorem there_row {w : World} {b : Nat} {t : TypeId} {cs : Array Value} (h : w.heap[b]? = some (.cells cs t (0, 0))) {o n : Nat} (hn : o + n ≤ cs.size) : w.there b o n := fun j hj => by
  refine ⟨?_, free_at h (o + j)⟩
  rw [cell_at h, Array.getElem?_eq_getElem (by omega)]
  rfl
theorem there_drewN {w : World} {b o n : Nat} (h : w.there b o n) (k : Nat) : (w.drewN k).there b o n := h
theorem put_frame (id st fi lim rq p : Value) (f g : Fr) : putAll ([id, st, fi, lim] ++ encF f ++ [rq, p]).toArray 4 (encF g) = ([id, st, fi, lim] ++ encF g ++ [rq, p]).toArray := by
  simp only [encF, putAll, List.cons_append, List.nil_append, List.append_assoc, List.setIfInBounds_toArray, List.set_cons_zero, List.set_cons_succ]
theorem scells_eq (s : SS) (b : Nat) (f : Fr) : scells s b f = ([Value.int .u64 s.id, .int .i64 s.st, .bool s.os.fi, .int .u64 s.lim] ++ encF f ++ [Value.bool s.rq, .pointer (some ⟨b, 0, none⟩)]).toArray := rfl
def SS.rstN (s : SS) (code : Nat) : Nat := if 4 ≤ s.st then 24 else if 4611686018427387903 < code then 1 else 0
def SS.rst (s : SS) (code : Nat) : SS := if s.rstN code = 0 then { s with st := 5, rs := some (code, s.os.sent), rq := true } else s
set_option maxRecDepth 100000 in
set_option maxHeartbeats 2000000 in
theorem sreset_any (r : Nat) (s : SS) (fp : Nat → Prop) (code : Nat) (w : World) (h : SdAt w r s fp) (hc : code < 18446744073709551616) :
    Calls Try.prog 18 #[.pointer (some ⟨r, 0, none⟩), .int .u64 code] w fun e w' => e = .returned (.int .i64 (s.rstN code)) ∧ SdM w w' fp r (s.rst code) := by
  have H := Lib.hid h
  obtain ⟨_, c1, _, _, _⟩ := h.cells
  obtain ⟨b, fb, h0, hfp⟩ := h
  have H0 := Lib.hid h0
  have HFP := Lib.hid hfp
  have f1 := free_at h0.blk 1
  have f23 := free_at h0.blk 23
  have c23 : w.cell? ⟨r, 23, none⟩ = some (.bool s.rq) := (cell_at h0.blk 23).trans rfl
  have hst := h0.ok.st
  have hsent : s.os.sent < 18446744073709551616 := by have := h0.buf.ok.sent; have := h0.buf.ok.len; omega
  clear h0 hfp
  unfold SS.rst
  obtain ⟨a, ha⟩ : ∃ a, s.rstN code = a := ⟨_, rfl⟩
  rw [ha]
  obtain ⟨st, hste⟩ : ∃ st, s.st = st := ⟨_, rfl⟩
  rw [hste] at c1 hst
  have HA := Lib.hid ha
  have HST := Lib.hid hste
  clear ha hste
  by_cases h4 : 4 ≤ st
  · obtain rfl : a = 24 := by have := HA.out; unfold SS.rstN at this; rw [HST.out, if_pos h4] at this; exact this.symm
    have HEND := Lib.hid (SdM.refl H.out)
    go_enter Try.func18, Try.ntmps18
    go_wp2_with fail
    go_ret
    exact ⟨rfl, HEND.out⟩
  · by_cases hv : 4611686018427387903 < code
    · obtain rfl : a = 1 := by have := HA.out; unfold SS.rstN at this; rw [HST.out, if_neg h4, if_pos hv] at this; exact this.symm
      have HEND := Lib.hid (SdM.refl H.out)
      go_enter Try.func18, Try.ntmps18
      go_wp2_with fail
      go_ret
      exact ⟨rfl, HEND.out⟩
    · obtain rfl : a = 0 := by have := HA.out; unfold SS.rstN at this; rw [HST.out, if_neg h4, if_neg hv] at this; exact this.symm
      rw [if_pos rfl]
      obtain ⟨s5, hs5⟩ : ∃ s5 : SS, s5 = { s with st := 5, rq := true } := ⟨_, rfl⟩
      have HS5 := Lib.hid hs5
      obtain ⟨id, hid⟩ : ∃ id, s.id = id := ⟨_, rfl⟩
      obtain ⟨sn, hsn⟩ : ∃ sn, s.os.sent = sn := ⟨_, rfl⟩
      rw [hsn] at hsent ⊢
      have HSN0 := Lib.hid hsn
      have HID := Lib.hid hid
      clear hs5 hsn hid
      go_enter Try.func18, Try.ntmps18
      go_upto_region 6 with fail
      have hu5 : Upd (fun j => j = r) w ((w.setCell ⟨r, 1, none⟩ (.int .i64 5)).setCell ⟨r, 23, none⟩ (.bool true)) := ((Upd.refl (fun j => j = r) w).setCell ⟨r, 1, none⟩ (.inl rfl) _).setCell ⟨r, 23, none⟩ (.inl rfl) _
      have hb5 := set_at (set_at H0.out.blk 1 (.int .i64 5)) 23 (.bool true)
      generalize (w.setCell ⟨r, 1, none⟩ (.int .i64 5)).setCell ⟨r, 23, none⟩ (.bool true) = w5 at *
      have HBK5 := Lib.hid (show w5.heap[r]? = some (.cells (scells s5 b (resetF s.id s.rs)) 86 (0, 0)) from by rw [HS5.out]; exact hb5)
      have HU5 := Lib.hid hu5
      have H5 := Lib.hid (show SdAt w5 r s5 (fun j => j = r ∨ fb j) from by
        refine ⟨b, fb, ⟨?_, ?_, H0.out.ne, ?_⟩, rfl⟩
        · have := HBK5.out
          rw [HS5.out] at this ⊢
          exact this
        · rw [HS5.out]
          exact H0.out.own HU5.out
        · rw [HS5.out]
          exact ⟨H0.out.ok.id, ⟨by show 1 ≤ 5; omega, by show 5 ≤ 6; omega⟩, H0.out.ok.lim, H0.out.ok.rs⟩)
      have HSN := Lib.hid (show s5.os.sent = sn from by rw [HS5.out]; exact HSN0.out)
      have HC0 := Lib.hid (show w5.cell? ⟨r, 0, none⟩ = some (.int .u64 id) from by rw [← HID.out]; exact (cell_at HBK5.out 0).trans (by rw [HS5.out]; rfl))
      have HTH := Lib.hid (there_row HBK5.out (o := 4) (n := 19) (by show 23 ≤ 25; omega))
      have HFIN := Lib.hid (show ∀ k, SdM w ((w5.drewN k).setCells r 4 (encF (resetF id (some (code, sn))))) fp r { s with st := 5, rs := some (code, sn), rq := true } from fun k => by
        refine sdm_two (s' := { s with st := 5, rs := some (code, sn), rq := true }) H0.out HFP.out (HU5.out.drewN k) (OM.refl ((H0.out.own HU5.out).drewN k)) (upd_setCells (F := fun j => j = r) rfl _ _ _ _ (Upd.refl _ _)) ?_ ⟨H0.out.ok.id, ⟨by show 1 ≤ 5; omega, by show 5 ≤ 6; omega⟩, H0.out.ok.lim, fun x hx => ?_⟩
        · have := setCells_at (encF (resetF id (some (code, sn)))) 4 (w5.drewN k) _ HBK5.out
          rw [this, scells_eq, put_frame, scells_eq, HS5.out, ← HID.out]
        · cases hx
          exact ⟨hc, hsent⟩)
      clear hu5 hb5 c1 c23 f1 f23
      refine wp_region_till (S := fun w' => w'.cell? ⟨r, 0, none⟩ = some (.int .u64 id)) [11] (by kernel_rfl) (by exact HC0.out) (fun hHeld => ?_)
      refine wpTill_take0 (i := 0) (oi := ⟨some 20, _, _, _, _, _⟩) (v := ?_) rfl (by kernel_rfl) (fun _ _ _ h => h) (Or.inl ⟨by rfl, ?_⟩) (fun _ => hHeld) ?_
      rotate_left
      · intro w hSw
        (try dsimp only at hSw)
        go_simp
        try with_reducible rfl
      try simp only [Act.put, List.setIfInBounds_toArray, List.set_cons_zero, List.set_cons_succ]
      refine wpTill_take0 (i := 1) (oi := ⟨some 21, _, _, _, _, _⟩) (v := ?_) rfl (by kernel_rfl) (fun _ _ _ h => h) (Or.inl ⟨by rfl, ?_⟩) (fun _ => hHeld) ?_
      rotate_left
      · intro w hSw
        (try dsimp only at hSw)
        go_simp
        try with_reducible rfl
      try simp only [Act.put, List.setIfInBounds_toArray, List.set_cons_zero, List.set_cons_succ]
      refine wpTill_take0 (i := 2) (oi := ⟨some 22, _, _, _, _, _⟩) (v := ?_) rfl (by kernel_rfl) (fun _ _ _ h => h) (Or.inl ⟨by rfl, ?_⟩) (fun _ => hHeld) ?_
      rotate_left
      · intro w hSw
        (try dsimp only at hSw)
        go_simp
        try with_reducible rfl
      try simp only [Act.put, List.setIfInBounds_toArray, List.set_cons_zero, List.set_cons_succ]
      refine wpTill_take0 (i := 3) (oi := ⟨some 23, _, _, _, _, _⟩) (v := ?_) rfl (by kernel_rfl) (fun _ _ _ h => h) (Or.inl ⟨by rfl, ?_⟩) (fun _ => hHeld) ?_
      rotate_left
      · intro w hSw
        (try dsimp only at hSw)
        go_simp
        try with_reducible rfl
      try simp only [Act.put, List.setIfInBounds_toArray, List.set_cons_zero, List.set_cons_succ]
      refine wpTill_take (i := 4) (oi := ⟨some 24, _, _, _, _, _⟩) (v := ?_) rfl (by kernel_rfl) (fun _ _ _ h => h) (Or.inl ⟨by rfl, ?_⟩) (by exact hHeld) ?_
      rotate_left
      · intro w hSw
        (try dsimp only at hSw)
        go_simp
        try with_reducible rfl
      try simp only [Act.put, List.setIfInBounds_toArray, List.set_cons_zero, List.set_cons_succ]
      refine wpTill_take0 (i := 5) (oi := ⟨some 25, _, _, _, _, _⟩) (v := ?_) rfl (by kernel_rfl) (fun _ _ _ h => h) (Or.inl ⟨by rfl, ?_⟩) (fun _ => hHeld) ?_
      rotate_left
      · intro w hSw
        (try dsimp only at hSw)
        go_simp
        try with_reducible rfl
      try simp only [Act.put, List.setIfInBounds_toArray, List.set_cons_zero, List.set_cons_succ]
      refine wpTill_take0 (i := 6) (oi := ⟨some 26, _, _, _, _, _⟩) (v := ?_) rfl (by kernel_rfl) (fun _ _ _ h => h) (Or.inl ⟨by rfl, ?_⟩) (fun _ => hHeld) ?_
      rotate_left
      · intro w hSw
        (try dsimp only at hSw)
        go_simp
        try with_reducible rfl
      try simp only [Act.put, List.setIfInBounds_toArray, List.set_cons_zero, List.set_cons_succ]
      refine wpTill_ready (rs := [7]) (by kernel_rfl) (by simp) ?_
      refine AllTill.cons (o := ⟨some 27, _, _, _, _, _⟩) rfl (fun K hK => ?_) AllTill.nil
      go_simp
      go_at_call 22
      refine (ssent_q r s5 (fun j => j = r ∨ fb j) _ (by exact H5.out.drewN _)).mono ?_
      rw [HSN.out]
      rintro e W8 ⟨rfl, q8, rfl⟩
      go_wp2_with fail
      refine hK.out _ _ (by exact HC0.out) (fun hHeld => ?_)
      clear hK K
      try simp only [Act.put, List.setIfInBounds_toArray, List.set_cons_zero, List.set_cons_succ]
      refine wpTill_take0 (i := 8) (oi := ⟨some 28, _, _, _, _, _⟩) (v := ?_) rfl (by kernel_rfl) (fun _ _ _ h => h) (Or.inl ⟨by rfl, ?_⟩) (fun _ => hHeld) ?_
      rotate_left
      · intro w hSw
        (try dsimp only at hSw)
        go_simp
        try with_reducible rfl
      try simp only [Act.put, List.setIfInBounds_toArray, List.set_cons_zero, List.set_cons_succ]
      refine wpTill_take0 (i := 9) (oi := ⟨some 29, _, _, _, _, _⟩) (v := ?_) rfl (by kernel_rfl) (fun _ _ _ h => h) (Or.inl ⟨by rfl, ?_⟩) (fun _ => hHeld) ?_
      rotate_left
      · intro w hSw
        (try dsimp only at hSw)
        go_simp
        try with_reducible rfl
      try simp only [Act.put, List.setIfInBounds_toArray, List.set_cons_zero, List.set_cons_succ]
      refine wpTill_take0 (i := 10) (oi := ⟨some 30, _, _, _, _, _⟩) (v := ?_) rfl (by kernel_rfl) (fun _ _ _ h => h) (Or.inl ⟨by rfl, ?_⟩) (fun _ => hHeld) ?_
      rotate_left
      · intro w hSw
        (try dsimp only at hSw)
        go_simp
        try with_reducible rfl
      try simp only [Act.put, List.setIfInBounds_toArray, List.set_cons_zero, List.set_cons_succ]
      refine wpTill_ready (rs := [11]) (by kernel_rfl) (by simp) ?_
      refine AllTill.consD (o := ⟨none, _, _, _, _, _⟩) rfl (by kernel_rfl) (fun K hK => ?_) AllTill.nil
      refine wp_store_mid 39 (.tmp 30) (.tmp 28) rfl r 4 _ rfl rfl (by exact HTH.out) (by rw [sizeF]; rfl) (by simp [Value.oneCell']) ?_
      refine hK.out _ _ ?_
      clear hK K
      try simp only [Act.put, List.setIfInBounds_toArray, List.set_cons_zero, List.set_cons_succ]
      refine wpTill_done (by kernel_rfl) ?_ _
      go_wp2_with fail
      go_ret
      exact ⟨rfl, HFIN.out _⟩
end Go.Proofs.Ytncfbaabhceeoaa

/- DERIVED. Walk of sender's Acked (printed by mksndack.py). -/
namespace Go.Proofs.Ytncfbaabhceeoaa
open Go.RowKit

def OS.whole (s : OS) : Bool := s.fi && s.ea && decide (s.base = s.B.length)
/-- The buffer turned by what is acknowledged. -/
def SS.ackd (s : SS) (o : OS) : SS := { s with os := o, st := if s.st = 3 ∧ o.whole = true then 4 else s.st }
set_option maxRecDepth 100000 in
set_option maxHeartbeats 4000000 in
theorem sack_str (r : Nat) (s : SS) (fp : Nat → Prop) (f : Fr) (off n cd : Nat) (fin : Bool) (od : Option Addr) (zs yz : List Rg) (at_ : Nat) (w : World) (h : SdAt w r s fp) (hf : FrOk f) (hk : f.kd = 8) (hs : f.sid = s.id) (hof : f.off = off) (hv : f.vd = .slice od n cd) (hfi : f.fin = fin) (hn : n ≤ 9223372036854775807)
    (hyz : cutRaw (s.os.kn off n).1 (s.os.kn off n).2 s.os.ys = yz) (hly : yz.length ≤ 100000) (hzs : s.os.ackX (s.os.kn off n) = zs) (hnz : Norm zs) (hlz : zs.length ≤ 100000) (hat : atOf zs s.os.B.length = at_) (hat1 : s.os.base ≤ at_) (hat2 : at_ ≤ s.os.B.length) :
    Calls Try.prog 24 #[.pointer (some ⟨r, 0, none⟩), .agg (encF f).toArray] w fun e w' => e = .returned (.tuple #[]) ∧ SdM w w' fp r (s.ackd (s.os.ackG zs yz at_ fin)) := by
  have H := Lib.hid h
  obtain ⟨b, fb, h0, hfp⟩ := h
  obtain ⟨kd, sid, foff, vd, ffin, lim, code, fnl, seq, dly, vr, c0, c1, c2, c3, c4, c5, c6, c7⟩ := f
  obtain rfl : kd = 8 := hk
  obtain rfl : foff = off := hof
  obtain rfl : vd = .slice od n cd := hv
  obtain rfl : ffin = fin := hfi
  obtain rfl : sid = s.id := hs
  have HF := Lib.hid hf
  have hoff := hf.off
  simp only at hoff
  have H0 := Lib.hid h0
  have HY := Lib.hid (And.intro hyz (And.intro hly (And.intro hzs (And.intro hnz (And.intro hlz (And.intro hat (And.intro hat1 hat2)))))))
  have c0' : w.cell? ⟨r, 0, none⟩ = some (.int .u64 s.id) := (cell_at h0.blk 0).trans rfl
  have HFIN0 := Lib.hid (show ∀ W W8, Below w.heap.size w W → OM W W8 fb b (s.os.ackG zs yz at_ ffin) → SdM w W8 fp r { s with os := (s.os.ackG zs yz at_ ffin) } from fun W W8 hb hm => by
    obtain ⟨fb', h1, h2⟩ := hm
    have hm2 : OM w W8 fb b (s.os.ackG zs yz at_ ffin) := ⟨fb', h1, h2.first hb⟩
    exact sdm_of (s' := { s with os := (s.os.ackG zs yz at_ ffin) }) h0 hfp hm2 (Upd.refl _ _) (h0.later hm2) ⟨h0.ok.id, h0.ok.st, h0.ok.lim, h0.ok.rs⟩)
  obtain ⟨T, hT⟩ : ∃ T, s.ackd (s.os.ackG zs yz at_ ffin) = T := ⟨_, rfl⟩
  rw [hT]
  have HE1 := Lib.hid (show ∀ W, SdM w W fp r { s with os := (s.os.ackG zs yz at_ ffin), st := 4 } → s.st = 3 → (s.os.ackG zs yz at_ ffin).whole = true → SdM w W fp r T from fun W m h3 hw => by
    rw [← hT, SS.ackd, if_pos ⟨h3, hw⟩]
    exact m)
  have HE2 := Lib.hid (show ∀ W, SdM w W fp r { s with os := (s.os.ackG zs yz at_ ffin) } → ¬ (s.st = 3 ∧ (s.os.ackG zs yz at_ ffin).whole = true) → SdM w W fp r T from fun W m h3 => by
    rw [← hT, SS.ackd, if_neg h3]
    exact m)
  obtain ⟨st, hst⟩ : ∃ st, s.st = st := ⟨_, rfl⟩
  have HST := Lib.hid hst
  simp only [encF]
  generalize s.id = id at *
  clear hT hst
  clear h0 hfp hf hyz hly hzs hnz hlz hat hat1 hat2
  go_enter Try.func24, Try.ntmps24
  go_upto_region 0 with fail
  go_cut [3] (fun v wx => ∃ z, v = .pointer (some ⟨z, 0, none⟩) ∧ w.heap.size ≤ z ∧ Below w.heap.size w wx ∧ wx.heap[z]? = some (.cells #[.int .i64 8, .int .u64 id, .int .u64 foff, .slice od n cd, .bool ffin, .int .u64 lim, .int .u64 code, .int .u64 fnl, .int .u64 seq, .int .u64 dly, vr,
    .int .u8 c0, .int .u8 c1, .int .u8 c2, .int .u8 c3, .int .u8 c4, .int .u8 c5, .int .u8 c6, .int .u8 c7] 39 (0, 0)))
  case first =>
    go_wp2_with fail
    go_meet
    case rel => exact ⟨_, rfl, Nat.le_refl _, (Below.refl _ _).alloc (Nat.le_refl _) _, alloc_at _ _⟩
  case rest =>
    obtain ⟨z, rfl, hz, hb1, hkz⟩ := hcut
    generalize wc = w1 at *
    have HKZ := Lib.hid hkz
    have HBD := Lib.hid (show ∀ k, Below w.heap.size w (w1.drewN k) from fun k => below_drewN hb1 k)
    have HBD1 := Lib.hid (show Below w.heap.size w w1.drew from hb1.drew)
    have hrw := heap_lt H0.out.blk
    have HRK := Lib.hid (below_keeps hb1 H0.out.blk hrw)
    have HB := Lib.hid H0.out.buf
    have d0 := cell_keep hb1 hrw c0'
    have z0 := (cell_at hkz 0).trans (by rfl : _ = some (Value.int .i64 8))
    have z1 := (cell_at hkz 1).trans (by rfl : _ = some (Value.int .u64 id))
    clear hb1 hkz c0'
    go_wp2_with fail
    go_quiet (fail)
    go_wp2_with fail
    refine wp_region_till (S := fun w' => w'.cell? ⟨r, 24, none⟩ = some (.pointer (some ⟨b, 0, none⟩)) ∧ w'.cell? ⟨z, 2, none⟩ = some (.int .u64 foff) ∧ w'.cell? ⟨z, 3, none⟩ = some (.slice od n cd) ∧ w'.cell? ⟨z, 4, none⟩ = some (.bool ffin)) [11] (by kernel_rfl) (by exact ⟨(cell_at HRK.out 24).trans rfl, (cell_at HKZ.out 2).trans rfl, (cell_at HKZ.out 3).trans rfl, (cell_at HKZ.out 4).trans rfl⟩) (fun hHeld => ?_)
    refine wpTill_take0 (i := 0) (oi := ⟨some 16, _, _, _, _, _⟩) (v := ?_) rfl (by kernel_rfl) (fun _ _ _ h => h) (Or.inl ⟨by rfl, ?_⟩) (fun _ => hHeld) ?_
    rotate_left
    · intro w hSw
      (try dsimp only at hSw)
      go_simp
      try with_reducible rfl
    try simp only [Act.put, List.setIfInBounds_toArray, List.set_cons_zero, List.set_cons_succ]
    refine wpTill_take0 (i := 1) (oi := ⟨some 17, _, _, _, _, _⟩) (v := ?_) rfl (by kernel_rfl) (fun _ _ _ h => h) (Or.inl ⟨by rfl, ?_⟩) (fun _ => hHeld) ?_
    rotate_left
    · intro w hSw
      (try dsimp only at hSw)
      go_simp
      try with_reducible rfl
    try simp only [Act.put, List.setIfInBounds_toArray, List.set_cons_zero, List.set_cons_succ]
    refine wpTill_take0 (i := 2) (oi := ⟨some 18, _, _, _, _, _⟩) (v := ?_) rfl (by kernel_rfl) (fun _ _ _ h => h) (Or.inl ⟨by rfl, ?_⟩) (fun _ => hHeld) ?_
    rotate_left
    · intro w hSw
      (try dsimp only at hSw)
      go_simp
      try with_reducible rfl
    try simp only [Act.put, List.setIfInBounds_toArray, List.set_cons_zero, List.set_cons_succ]
    refine wpTill_take (i := 3) (oi := ⟨some 19, _, _, _, _, _⟩) (v := ?_) rfl (by kernel_rfl) (fun _ _ _ h => h) (Or.inl ⟨by rfl, ?_⟩) (by exact hHeld) ?_
    rotate_left
    · intro w hSw
      (try dsimp only at hSw)
      go_simp
      try with_reducible rfl
    try simp only [Act.put, List.setIfInBounds_toArray, List.set_cons_zero, List.set_cons_succ]
    refine wpTill_take0 (i := 4) (oi := ⟨some 20, _, _, _, _, _⟩) (v := ?_) rfl (by kernel_rfl) (fun _ _ _ h => h) (Or.inl ⟨by rfl, ?_⟩) (fun _ => hHeld) ?_
    rotate_left
    · intro w hSw
      (try dsimp only at hSw)
      go_simp
      try with_reducible rfl
    try simp only [Act.put, List.setIfInBounds_toArray, List.set_cons_zero, List.set_cons_succ]
    refine wpTill_take (i := 5) (oi := ⟨some 21, _, _, _, _, _⟩) (v := ?_) rfl (by kernel_rfl) (fun _ _ _ h => h) (Or.inl ⟨by rfl, ?_⟩) (by exact hHeld) ?_
    rotate_left
    · intro w hSw
      (try dsimp only at hSw)
      go_simp
      try with_reducible rfl
    try simp only [Act.put, List.setIfInBounds_toArray, List.set_cons_zero, List.set_cons_succ]
    refine wpTill_take0 (i := 6) (oi := ⟨some 22, _, _, _, _, _⟩) (v := ?_) rfl (by kernel_rfl) (fun _ _ _ h => h) (Or.inl ⟨by rfl, ?_⟩) (fun _ => hHeld) ?_
    rotate_left
    · intro w hSw
      (try dsimp only at hSw)
      go_simp
      try with_reducible rfl
    try simp only [Act.put, List.setIfInBounds_toArray, List.set_cons_zero, List.set_cons_succ]
    refine wpTill_take0 (i := 9) (oi := ⟨some 25, _, _, _, _, _⟩) (v := ?_) rfl (by kernel_rfl) (fun _ _ _ h => h) (Or.inl ⟨by rfl, ?_⟩) (fun _ => hHeld) ?_
    rotate_left
    · intro w hSw
      (try dsimp only at hSw)
      go_simp
      try with_reducible rfl
    try simp only [Act.put, List.setIfInBounds_toArray, List.set_cons_zero, List.set_cons_succ]
    refine wpTill_take (i := 10) (oi := ⟨some 26, _, _, _, _, _⟩) (v := ?_) rfl (by kernel_rfl) (fun _ _ _ h => h) (Or.inl ⟨by rfl, ?_⟩) (by exact hHeld) ?_
    rotate_left
    · intro w hSw
      (try dsimp only at hSw)
      go_simp
      try with_reducible rfl
    try simp only [Act.put, List.setIfInBounds_toArray, List.set_cons_zero, List.set_cons_succ]
    refine wpTill_ready (rs := [7]) (by kernel_rfl) (by simp) ?_
    refine AllTill.cons (o := ⟨some 23, _, _, _, _, _⟩) rfl (fun K hK => ?_) AllTill.nil
    have z3 := (cell_at HKZ.out 3).trans (by rfl : _ = some (Value.slice od n cd))
    go_simp
    refine hK.out _ _ (by exact hHeld) (fun hHeld => ?_)
    clear hK K
    try simp only [Act.put, List.setIfInBounds_toArray, List.set_cons_zero, List.set_cons_succ]
    refine wpTill_ready (rs := [8]) (by kernel_rfl) (by simp) ?_
    refine AllTill.cons (o := ⟨some 24, _, _, _, _, _⟩) rfl (fun K hK => ?_) AllTill.nil
    go_simp
    refine hK.out _ _ (by exact hHeld) (fun hHeld => ?_)
    clear hK K
    try simp only [Act.put, List.setIfInBounds_toArray, List.set_cons_zero, List.set_cons_succ]
    refine wpTill_ready (rs := [11]) (by kernel_rfl) (by simp) ?_
    refine AllTill.consD (o := ⟨some 27, _, _, _, _, _⟩) rfl (by kernel_rfl) (fun K hK => ?_) AllTill.nil
    go_simp
    go_at_call 44
    refine (oackG_any b s.os fb foff n zs at_ _ (by first | exact HB.out.below (HBD.out _) | exact HB.out.below HBD1.out) (by exact HF.out.off) (by omega) (by omega) ffin yz HY.out.1 HY.out.2.1 HY.out.2.2.1 HY.out.2.2.2.1 HY.out.2.2.2.2.1 HY.out.2.2.2.2.2.1 HY.out.2.2.2.2.2.2.1 HY.out.2.2.2.2.2.2.2).mono ?_
    rintro e W8 ⟨rfl, hm⟩
    have H8 := Lib.hid (by first | exact HFIN0.out _ _ (HBD.out _) hm | exact HFIN0.out _ _ HBD1.out hm)
    clear hm
    obtain ⟨e1, f1, _, _⟩ := H8.out.cell1
    obtain ⟨b8, fb8, ho8, e24⟩ := H8.out.ptr
    have HO8 := Lib.hid ho8
    clear ho8
    rw [show (_ : SS).st = st from HST.out] at e1
    refine hK.out _ _ ?_
    clear hK K
    try simp only [Act.put, List.setIfInBounds_toArray, List.set_cons_zero, List.set_cons_succ]
    refine wpTill_done (by kernel_rfl) ?_ _
    by_cases h3 : st = 3
    · subst h3
      go_wp2_with fail
      refine (owhole_q b8 _ fb8 _ (by exact HO8.out)).mono ?_
      obtain ⟨wh, hwh⟩ : ∃ wh, (s.os.ackG zs yz at_ ffin).whole = wh := ⟨_, rfl⟩
      have HWH := Lib.hid hwh
      unfold OS.whole at hwh
      rw [hwh]
      clear hwh
      rintro e w9 ⟨rfl, q9, rfl⟩
      cases wh
      · go_wp2_with fail
        go_end0
        exact ⟨rfl, HE2.out _ (H8.out.drewN _) (by rw [HWH.out]; simp)⟩
      · go_wp2_with fail
        go_end0
        exact ⟨rfl, HE1.out _ ((H8.out.drewN _).setSt 4 ⟨by omega, by omega⟩) HST.out HWH.out⟩
    · go_wp2_with fail
      go_end0
      exact ⟨rfl, HE2.out _ (H8.out.drewN 0) (fun q => h3 (HST.out.symm.trans q.1))⟩
set_option maxRecDepth 100000 in
set_option maxHeartbeats 2000000 in
theorem sack_rst (r : Nat) (s : SS) (fp : Nat → Prop) (f : Fr) (w : World) (h : SdAt w r s fp) (hk : f.kd = 4) (hs : f.sid = s.id) (h5 : s.st = 5) :
    Calls Try.prog 24 #[.pointer (some ⟨r, 0, none⟩), .agg (encF f).toArray] w fun e w' => e = .returned (.tuple #[]) ∧ SdM w w' fp r { s with st := 6, rq := false } := by
  have H := Lib.hid h
  obtain ⟨b, fb, h0, hfp⟩ := h
  obtain ⟨kd, sid, foff, vd, ffin, lim, code, fnl, seq, dly, vr, c0, c1, c2, c3, c4, c5, c6, c7⟩ := f
  obtain rfl : kd = 4 := hk
  obtain rfl : sid = s.id := hs
  have H0 := Lib.hid h0
  have c0' : w.cell? ⟨r, 0, none⟩ = some (.int .u64 s.id) := (cell_at h0.blk 0).trans rfl
  have c1' : w.cell? ⟨r, 1, none⟩ = some (.int .i64 5) := (cell_at h0.blk 1).trans (by rw [show (5 : Int) = (s.st : Int) by omega]; rfl)
  have c23 : w.cell? ⟨r, 23, none⟩ = some (.bool s.rq) := (cell_at h0.blk 23).trans rfl
  have f23 := free_at h0.blk 23
  have f1 := free_at h0.blk 1
  have HFIN0 := Lib.hid (show ∀ W, Below w.heap.size w W → SdM w ((W.setCell ⟨r, 1, none⟩ (.int .i64 6)).setCell ⟨r, 23, none⟩ (.bool false)) fp r { s with st := 6, rq := false } from fun W hb =>
    (((SdM.refl H.out).later hb).setSt 6 ⟨by omega, by omega⟩).setRq false)
  simp only [encF]
  generalize s.id = id at *
  clear h0 hfp
  go_enter Try.func24, Try.ntmps24
  go_upto_region 0 with fail
  go_cut [3] (fun v wx => ∃ z, v = .pointer (some ⟨z, 0, none⟩) ∧ w.heap.size ≤ z ∧ Below w.heap.size w wx ∧ wx.heap[z]? = some (.cells #[.int .i64 4, .int .u64 id, .int .u64 foff, vd, .bool ffin, .int .u64 lim, .int .u64 code, .int .u64 fnl, .int .u64 seq, .int .u64 dly, vr,
    .int .u8 c0, .int .u8 c1, .int .u8 c2, .int .u8 c3, .int .u8 c4, .int .u8 c5, .int .u8 c6, .int .u8 c7] 39 (0, 0)))
  case first =>
    go_wp2_with fail
    go_meet
    case rel => exact ⟨_, rfl, Nat.le_refl _, (Below.refl _ _).alloc (Nat.le_refl _) _, alloc_at _ _⟩
  case rest =>
    obtain ⟨z, rfl, hz, hb1, hkz⟩ := hcut
    generalize wc = w1 at *
    have hrw := heap_lt H0.out.blk
    have d0 := cell_keep hb1 hrw c0'
    have d1 := cell_keep hb1 hrw c1'
    have d23 := cell_keep hb1 hrw c23
    have g23 := free_at (below_keeps hb1 H0.out.blk hrw) 23
    have g1 := free_at (below_keeps hb1 H0.out.blk hrw) 1
    have HFIN := Lib.hid (show ∀ k, SdM w (((w1.drewN k).setCell ⟨r, 1, none⟩ (.int .i64 6)).setCell ⟨r, 23, none⟩ (.bool false)) fp r { s with id := id, st := 6, rq := false } from fun k => HFIN0.out _ (below_drewN hb1 k))
    have z0 := (cell_at hkz 0).trans (by rfl : _ = some (Value.int .i64 4))
    have z1 := (cell_at hkz 1).trans (by rfl : _ = some (Value.int .u64 id))
    clear hb1 hkz c0' c1' c23 f23 f1
    go_wp2_with fail
    go_quiet (fail)
    go_wp2_with fail
    go_end0
    exact ⟨rfl, HFIN.out _⟩
end Go.Proofs.Ytncfbaabhceeoaa

/- DERIVED. Walk of sender's Lost (printed by mksndlost.py). -/
namespace Go.Proofs.Ytncfbaabhceeoaa
open Go.RowKit

set_option maxRecDepth 100000 in
set_option maxHeartbeats 4000000 in
theorem slost_str (r : Nat) (s : SS) (fp : Nat → Prop) (f : Fr) (off n cd : Nat) (fin : Bool) (od : Option Addr) (y0 ys : List Rg) (w : World) (h : SdAt w r s fp) (hf : FrOk f) (hk : f.kd = 8) (hs : f.sid = s.id) (hof : f.off = off) (hv : f.vd = .slice od n cd) (hfi : f.fin = fin) (hn : n ≤ 9223372036854775807)
    (hy0 : s.os.lostB (s.os.kn off n) = y0) (hny : Norm y0) (hly : y0.length + s.os.xs.length ≤ 100000) (hys : lostY s.os y0 s.os.xs.length = ys) :
    Calls Try.prog 23 #[.pointer (some ⟨r, 0, none⟩), .agg (encF f).toArray] w fun e w' => e = .returned (.tuple #[]) ∧ SdM w w' fp r { s with os := { s.os with ys := ys, el := s.os.el || (fin && s.os.es) } } := by
  have H := Lib.hid h
  obtain ⟨b, fb, h0, hfp⟩ := h
  obtain ⟨kd, sid, foff, vd, ffin, lim, code, fnl, seq, dly, vr, c0, c1, c2, c3, c4, c5, c6, c7⟩ := f
  obtain rfl : kd = 8 := hk
  obtain rfl : foff = off := hof
  obtain rfl : vd = .slice od n cd := hv
  obtain rfl : ffin = fin := hfi
  obtain rfl : sid = s.id := hs
  have HF := Lib.hid hf
  have hoff := hf.off
  simp only at hoff
  have H0 := Lib.hid h0
  have HY := Lib.hid (And.intro hy0 (And.intro hny (And.intro hly hys)))
  have c0' : w.cell? ⟨r, 0, none⟩ = some (.int .u64 s.id) := (cell_at h0.blk 0).trans rfl
  have HFIN0 := Lib.hid (show ∀ W W8, Below w.heap.size w W → OM W W8 fb b { s.os with ys := ys, el := s.os.el || (ffin && s.os.es) } → SdM w W8 fp r { s with os := { s.os with ys := ys, el := s.os.el || (ffin && s.os.es) } } from fun W W8 hb hm => by
    obtain ⟨fb', h1, h2⟩ := hm
    have hm2 : OM w W8 fb b { s.os with ys := ys, el := s.os.el || (ffin && s.os.es) } := ⟨fb', h1, h2.first hb⟩
    exact sdm_of (s' := { s with os := { s.os with ys := ys, el := s.os.el || (ffin && s.os.es) } }) h0 hfp hm2 (Upd.refl _ _) (h0.later hm2) ⟨h0.ok.id, h0.ok.st, h0.ok.lim, h0.ok.rs⟩)
  simp only [encF]
  generalize s.id = id at *
  clear h0 hfp hf hy0 hny hly hys
  go_enter Try.func23, Try.ntmps23
  go_upto_region 0 with fail
  go_cut [3] (fun v wx => ∃ z, v = .pointer (some ⟨z, 0, none⟩) ∧ w.heap.size ≤ z ∧ Below w.heap.size w wx ∧ wx.heap[z]? = some (.cells #[.int .i64 8, .int .u64 id, .int .u64 foff, .slice od n cd, .bool ffin, .int .u64 lim, .int .u64 code, .int .u64 fnl, .int .u64 seq, .int .u64 dly, vr,
    .int .u8 c0, .int .u8 c1, .int .u8 c2, .int .u8 c3, .int .u8 c4, .int .u8 c5, .int .u8 c6, .int .u8 c7] 39 (0, 0)))
  case first =>
    go_wp2_with fail
    go_meet
    case rel => exact ⟨_, rfl, Nat.le_refl _, (Below.refl _ _).alloc (Nat.le_refl _) _, alloc_at _ _⟩
  case rest =>
    obtain ⟨z, rfl, hz, hb1, hkz⟩ := hcut
    generalize wc = w1 at *
    have HKZ := Lib.hid hkz
    have HBD := Lib.hid (show ∀ k, Below w.heap.size w (w1.drewN k) from fun k => below_drewN hb1 k)
    have HBD1 := Lib.hid (show Below w.heap.size w w1.drew from hb1.drew)
    have hrw := heap_lt H0.out.blk
    have HRK := Lib.hid (below_keeps hb1 H0.out.blk hrw)
    have HB := Lib.hid H0.out.buf
    have d0 := cell_keep hb1 hrw c0'
    have z0 := (cell_at hkz 0).trans (by rfl : _ = some (Value.int .i64 8))
    have z1 := (cell_at hkz 1).trans (by rfl : _ = some (Value.int .u64 id))
    clear hb1 hkz c0'
    go_wp2_with fail
    go_quiet (fail)
    go_wp2_with fail
    refine wp_region_till (S := fun w' => w'.cell? ⟨r, 24, none⟩ = some (.pointer (some ⟨b, 0, none⟩)) ∧ w'.cell? ⟨z, 2, none⟩ = some (.int .u64 foff) ∧ w'.cell? ⟨z, 3, none⟩ = some (.slice od n cd) ∧ w'.cell? ⟨z, 4, none⟩ = some (.bool ffin)) [11] (by kernel_rfl) (by exact ⟨(cell_at HRK.out 24).trans rfl, (cell_at HKZ.out 2).trans rfl, (cell_at HKZ.out 3).trans rfl, (cell_at HKZ.out 4).trans rfl⟩) (fun hHeld => ?_)
    refine wpTill_take0 (i := 0) (oi := ⟨some 16, _, _, _, _, _⟩) (v := ?_) rfl (by kernel_rfl) (fun _ _ _ h => h) (Or.inl ⟨by rfl, ?_⟩) (fun _ => hHeld) ?_
    rotate_left
    · intro w hSw
      (try dsimp only at hSw)
      go_simp
      try with_reducible rfl
    try simp only [Act.put, List.setIfInBounds_toArray, List.set_cons_zero, List.set_cons_succ]
    refine wpTill_take0 (i := 1) (oi := ⟨some 17, _, _, _, _, _⟩) (v := ?_) rfl (by kernel_rfl) (fun _ _ _ h => h) (Or.inl ⟨by rfl, ?_⟩) (fun _ => hHeld) ?_
    rotate_left
    · intro w hSw
      (try dsimp only at hSw)
      go_simp
      try with_reducible rfl
    try simp only [Act.put, List.setIfInBounds_toArray, List.set_cons_zero, List.set_cons_succ]
    refine wpTill_take0 (i := 2) (oi := ⟨some 18, _, _, _, _, _⟩) (v := ?_) rfl (by kernel_rfl) (fun _ _ _ h => h) (Or.inl ⟨by rfl, ?_⟩) (fun _ => hHeld) ?_
    rotate_left
    · intro w hSw
      (try dsimp only at hSw)
      go_simp
      try with_reducible rfl
    try simp only [Act.put, List.setIfInBounds_toArray, List.set_cons_zero, List.set_cons_succ]
    refine wpTill_take (i := 3) (oi := ⟨some 19, _, _, _, _, _⟩) (v := ?_) rfl (by kernel_rfl) (fun _ _ _ h => h) (Or.inl ⟨by rfl, ?_⟩) (by exact hHeld) ?_
    rotate_left
    · intro w hSw
      (try dsimp only at hSw)
      go_simp
      try with_reducible rfl
    try simp only [Act.put, List.setIfInBounds_toArray, List.set_cons_zero, List.set_cons_succ]
    refine wpTill_take0 (i := 4) (oi := ⟨some 20, _, _, _, _, _⟩) (v := ?_) rfl (by kernel_rfl) (fun _ _ _ h => h) (Or.inl ⟨by rfl, ?_⟩) (fun _ => hHeld) ?_
    rotate_left
    · intro w hSw
      (try dsimp only at hSw)
      go_simp
      try with_reducible rfl
    try simp only [Act.put, List.setIfInBounds_toArray, List.set_cons_zero, List.set_cons_succ]
    refine wpTill_take (i := 5) (oi := ⟨some 21, _, _, _, _, _⟩) (v := ?_) rfl (by kernel_rfl) (fun _ _ _ h => h) (Or.inl ⟨by rfl, ?_⟩) (by exact hHeld) ?_
    rotate_left
    · intro w hSw
      (try dsimp only at hSw)
      go_simp
      try with_reducible rfl
    try simp only [Act.put, List.setIfInBounds_toArray, List.set_cons_zero, List.set_cons_succ]
    refine wpTill_take0 (i := 6) (oi := ⟨some 22, _, _, _, _, _⟩) (v := ?_) rfl (by kernel_rfl) (fun _ _ _ h => h) (Or.inl ⟨by rfl, ?_⟩) (fun _ => hHeld) ?_
    rotate_left
    · intro w hSw
      (try dsimp only at hSw)
      go_simp
      try with_reducible rfl
    try simp only [Act.put, List.setIfInBounds_toArray, List.set_cons_zero, List.set_cons_succ]
    refine wpTill_take0 (i := 9) (oi := ⟨some 25, _, _, _, _, _⟩) (v := ?_) rfl (by kernel_rfl) (fun _ _ _ h => h) (Or.inl ⟨by rfl, ?_⟩) (fun _ => hHeld) ?_
    rotate_left
    · intro w hSw
      (try dsimp only at hSw)
      go_simp
      try with_reducible rfl
    try simp only [Act.put, List.setIfInBounds_toArray, List.set_cons_zero, List.set_cons_succ]
    refine wpTill_take (i := 10) (oi := ⟨some 26, _, _, _, _, _⟩) (v := ?_) rfl (by kernel_rfl) (fun _ _ _ h => h) (Or.inl ⟨by rfl, ?_⟩) (by exact hHeld) ?_
    rotate_left
    · intro w hSw
      (try dsimp only at hSw)
      go_simp
      try with_reducible rfl
    try simp only [Act.put, List.setIfInBounds_toArray, List.set_cons_zero, List.set_cons_succ]
    refine wpTill_ready (rs := [7]) (by kernel_rfl) (by simp) ?_
    refine AllTill.cons (o := ⟨some 23, _, _, _, _, _⟩) rfl (fun K hK => ?_) AllTill.nil
    have z3 := (cell_at HKZ.out 3).trans (by rfl : _ = some (Value.slice od n cd))
    go_simp
    refine hK.out _ _ (by exact hHeld) (fun hHeld => ?_)
    clear hK K
    try simp only [Act.put, List.setIfInBounds_toArray, List.set_cons_zero, List.set_cons_succ]
    refine wpTill_ready (rs := [8]) (by kernel_rfl) (by simp) ?_
    refine AllTill.cons (o := ⟨some 24, _, _, _, _, _⟩) rfl (fun K hK => ?_) AllTill.nil
    go_simp
    refine hK.out _ _ (by exact hHeld) (fun hHeld => ?_)
    clear hK K
    try simp only [Act.put, List.setIfInBounds_toArray, List.set_cons_zero, List.set_cons_succ]
    refine wpTill_ready (rs := [11]) (by kernel_rfl) (by simp) ?_
    refine AllTill.consD (o := ⟨some 27, _, _, _, _, _⟩) rfl (by kernel_rfl) (fun K hK => ?_) AllTill.nil
    go_simp
    go_at_call 43
    refine (olost_any b s.os fb foff n ffin y0 ys _ (by first | exact HB.out.below (HBD.out _) | exact HB.out.below HBD1.out) (by exact HF.out.off) (by omega) (by omega) HY.out.1 HY.out.2.1 HY.out.2.2.1 HY.out.2.2.2).mono ?_
    rintro e W8 ⟨rfl, hm⟩
    have H8 := Lib.hid (by first | exact HFIN0.out _ _ (HBD.out _) hm | exact HFIN0.out _ _ HBD1.out hm)
    clear hm
    go_wp2_with fail
    refine hK.out _ _ ?_
    clear hK K
    try simp only [Act.put, List.setIfInBounds_toArray, List.set_cons_zero, List.set_cons_succ]
    refine wpTill_done (by kernel_rfl) ?_ _
    go_wp2_with fail
    go_end0
    exact ⟨rfl, H8.out⟩
set_option maxRecDepth 100000 in
set_option maxHeartbeats 2000000 in
theorem slost_rst (r : Nat) (s : SS) (fp : Nat → Prop) (f : Fr) (w : World) (h : SdAt w r s fp) (hk : f.kd = 4) (hs : f.sid = s.id) (h5 : s.st = 5) :
    Calls Try.prog 23 #[.pointer (some ⟨r, 0, none⟩), .agg (encF f).toArray] w fun e w' => e = .returned (.tuple #[]) ∧ SdM w w' fp r { s with rq := true } := by
  have H := Lib.hid h
  obtain ⟨b, fb, h0, hfp⟩ := h
  obtain ⟨kd, sid, foff, vd, ffin, lim, code, fnl, seq, dly, vr, c0, c1, c2, c3, c4, c5, c6, c7⟩ := f
  obtain rfl : kd = 4 := hk
  obtain rfl : sid = s.id := hs
  have H0 := Lib.hid h0
  have c0' : w.cell? ⟨r, 0, none⟩ = some (.int .u64 s.id) := (cell_at h0.blk 0).trans rfl
  have c1' : w.cell? ⟨r, 1, none⟩ = some (.int .i64 5) := (cell_at h0.blk 1).trans (by rw [show (5 : Int) = (s.st : Int) by omega]; rfl)
  have c23 : w.cell? ⟨r, 23, none⟩ = some (.bool s.rq) := (cell_at h0.blk 23).trans rfl
  have f23 := free_at h0.blk 23
  have HFIN0 := Lib.hid (show ∀ W, Below w.heap.size w W → SdM w (W.setCell ⟨r, 23, none⟩ (.bool true)) fp r { s with rq := true } from fun W hb => by
    refine sdm_of (s' := { s with rq := true }) h0 hfp ((OM.refl h0.buf).later hb) ((Upd.refl (fun j => j = r) W).setCell ⟨r, 23, none⟩ (.inl rfl) _) ?_ ⟨h0.ok.id, h0.ok.st, h0.ok.lim, h0.ok.rs⟩
    exact set_at (below_keeps hb h0.blk (heap_lt h0.blk)) 23 _)
  simp only [encF]
  generalize s.id = id at *
  clear h0 hfp
  go_enter Try.func23, Try.ntmps23
  go_upto_region 0 with fail
  go_cut [3] (fun v wx => ∃ z, v = .pointer (some ⟨z, 0, none⟩) ∧ w.heap.size ≤ z ∧ Below w.heap.size w wx ∧ wx.heap[z]? = some (.cells #[.int .i64 4, .int .u64 id, .int .u64 foff, vd, .bool ffin, .int .u64 lim, .int .u64 code, .int .u64 fnl, .int .u64 seq, .int .u64 dly, vr,
    .int .u8 c0, .int .u8 c1, .int .u8 c2, .int .u8 c3, .int .u8 c4, .int .u8 c5, .int .u8 c6, .int .u8 c7] 39 (0, 0)))
  case first =>
    go_wp2_with fail
    go_meet
    case rel => exact ⟨_, rfl, Nat.le_refl _, (Below.refl _ _).alloc (Nat.le_refl _) _, alloc_at _ _⟩
  case rest =>
    obtain ⟨z, rfl, hz, hb1, hkz⟩ := hcut
    generalize wc = w1 at *
    have hrw := heap_lt H0.out.blk
    have d0 := cell_keep hb1 hrw c0'
    have d1 := cell_keep hb1 hrw c1'
    have d23 := cell_keep hb1 hrw c23
    have g23 := free_at (below_keeps hb1 H0.out.blk hrw) 23
    have HFIN := Lib.hid (show ∀ k, SdM w ((w1.drewN k).setCell ⟨r, 23, none⟩ (.bool true)) fp r { s with id := id, rq := true } from fun k => HFIN0.out _ (below_drewN hb1 k))
    have z0 := (cell_at hkz 0).trans (by rfl : _ = some (Value.int .i64 4))
    have z1 := (cell_at hkz 1).trans (by rfl : _ = some (Value.int .u64 id))
    clear hb1 hkz c0' c1' c23 f23
    go_wp2_with fail
    go_quiet (fail)
    go_wp2_with fail
    go_end0
    exact ⟨rfl, HFIN.out _⟩
end Go.Proofs.Ytncfbaabhceeoaa
