/- DERIVED. Plain: a sender's buffer: bytes come, pieces go, are lost, are acknowledged. -/
import Derived.Test.YtnneoeimgbemfaaGreatQH3
import Derived.Test.YtnneoeimgbemfaaGreatQH15
import Derived.Test.YtnneoeimgbemfaaGreatQH19
import Derived.Test.YtnneoeimgbemfaaGreatQH20
set_option linter.all false
namespace Go.Proofs.YtnneoeimgbemfaaGreat
open Go.RowKit

structure GJ (s : OS) : Prop where
  ok : s.Ok
  l4 : s.B.length ≤ 20000
  rm : s.B.length ≤ s.base + 2048
  xb : ∀ j, mem s.xs j = true → j < s.sent
  yb : ∀ j, mem s.ys j = true → j < s.sent ∧ mem s.xs j = false
  bx : ∀ j, j < s.base → mem s.xs j = true
theorem GJ.start : GJ OS.zero :=
  ⟨OS.zero_ok, by show 0 ≤ 20000; omega, by show 0 ≤ _; omega, fun j q => by simp [OS.zero, mem] at q, fun j q => by simp [OS.zero, mem] at q, fun j q => absurd q (Nat.not_lt_zero _)⟩
theorem GJ.xl {s : OS} (h : GJ s) : s.xs.length ≤ 20000 ∧ s.ys.length ≤ 20000 := by
  have h1 := len_mem h.ok.nx h.xb
  have h2 := len_mem h.ok.ny (fun j hj => (h.yb j hj).1)
  have := h.ok.sent
  have := h.l4
  omega
theorem GJ.finish {s : OS} (h : GJ s) : GJ { s with fi := true } :=
  ⟨⟨h.ok.len, h.ok.base, h.ok.sent, h.ok.nx, h.ok.ny, h.ok.lx, h.ok.ly, h.ok.bys⟩, h.l4, h.rm, h.xb, h.yb, h.bx⟩
theorem GJ.endGoes {s : OS} (h : GJ s) : GJ { s with es := true, el := false } :=
  ⟨⟨h.ok.len, h.ok.base, h.ok.sent, h.ok.nx, h.ok.ny, h.ok.lx, h.ok.ly, h.ok.bys⟩, h.l4, h.rm, h.xb, h.yb, h.bx⟩
theorem write_len (s : OS) (d : List Nat) : (s.write d).B.length = s.B.length + min d.length s.room := by
  show (s.B ++ d.take (min d.length s.room)).length = _
  rw [List.length_append, List.length_take]
  omega
theorem GJ.write {s : OS} (h : GJ s) {d : List Nat} (hd : d.length ≤ 60) (hl : s.B.length ≤ 3900) (hb : Bys d) : GJ (s.write d) := by
  have hw := write_len s d
  have hr : s.room ≤ 2048 - (s.B.length - s.base) := by
    unfold OS.room
    split <;> omega
  have hbase := h.ok.base
  have hrm := h.rm
  have hsn := h.ok.sent
  refine ⟨⟨by omega, ?_, ?_, h.ok.nx, h.ok.ny, h.ok.lx, h.ok.ly, ?_⟩, by omega, ?_, h.xb, h.yb, h.bx⟩
  · show s.base ≤ _
    omega
  · show s.sent ≤ _
    omega
  · intro x hx
    have hx : x ∈ s.B ++ d.take (min d.length s.room) := hx
    rcases List.mem_append.1 hx with q | q
    · exact h.ok.bys x q
    · exact hb x (List.mem_of_mem_take q)
  · show _ ≤ s.base + 2048
    omega
theorem GJ.base_le {s : OS} {f : Nat} (h : GJ s) (hf : mem s.xs f = false) : s.base ≤ f := by
  rcases Nat.lt_or_ge f s.base with h1 | h1
  · rw [h.bx f h1] at hf
    cases hf
  · exact h1
theorem GJ.goes {s : OS} (h : GJ s) {f t : Nat} (hft : f < t) (htn : t ≤ s.B.length) : GJ (s.went f t) ∧ t ≤ (s.went f t).sent := by
  have hc := cutRaw_facts (f := f) (t := t) h.ok.ny (by omega)
  have hcn := cut_norm f t _ h.ok.ny
  have hmx : (s.went f t).sent = max s.sent t := rfl
  have heys : (s.went f t).ys = cutRaw f t s.ys := rfl
  have hos := h.ok.sent
  have hl4 := h.l4
  have hyb : ∀ j, mem (s.went f t).ys j = true → j < s.sent ∧ mem s.xs j = false := by
    intro j hj
    rw [heys, hc] at hj
    simp only [Bool.and_eq_true] at hj
    exact h.yb j hj.1
  have hyl := len_mem (xs := cutRaw f t s.ys) hcn (m := s.sent) (fun j hj => (hyb j hj).1)
  refine ⟨⟨⟨h.ok.len, h.ok.base, by rw [hmx]; show _ ≤ s.B.length; omega, h.ok.nx, hcn, h.ok.lx, by show (cutRaw f t s.ys).length ≤ _; omega, h.ok.bys⟩, h.l4, h.rm, ?_, ?_, h.bx⟩, by rw [hmx]; omega⟩
  · intro j hj
    have := h.xb j hj
    rw [hmx]
    omega
  · intro j hj
    obtain ⟨h1, h2⟩ := hyb j hj
    rw [hmx]
    exact ⟨by omega, h2⟩
/-- What Next does. -/
theorem GJ.next {s : OS} (h : GJ s) (m lim2 : Nat) :
    (∃ f t0 t, s.part lim2 = (f, t0) ∧ s.base ≤ f ∧ f < t ∧ min t0 (f + m) = t ∧ t ≤ s.B.length ∧ t0 ≤ 1099511627776 ∧ (cutRaw f t s.ys).length ≤ 100000 ∧ GJ (s.went f t) ∧ t ≤ (s.went f t).sent) ∨
    (s.ys = [] ∧ s.sent = s.B.length ∧ s.ende = true) ∨
    (∃ f t0, s.part lim2 = (f, t0) ∧ f ≤ t0 ∧ min t0 (f + m) = f ∧ t0 ≤ 1099511627776 ∧ (s.ys = [] → s.sent = s.B.length → s.ende = false)) := by
  have hs := h.ok.sent
  have hl := h.l4
  have hcl : ∀ f t, (cutRaw f t s.ys).length ≤ 100000 := fun f t => by have := cut_le f t _ h.ok.ny; have := h.xl.2; omega
  obtain ⟨f, t0, hp, hft0, h1, h2, h3⟩ : ∃ f t0, s.part lim2 = (f, t0) ∧ f ≤ t0 ∧ t0 ≤ max s.sent (min lim2 s.B.length) ∧ (s.ys = [] → f = s.sent) ∧ (f < t0 → mem s.xs f = false) := by
    cases hy : s.ys with
    | nil =>
      refine ⟨s.sent, max s.sent (min lim2 s.B.length), ?_, by omega, Nat.le_refl _, fun _ => rfl, fun _ => bool_not (fun q => by have := h.xb _ q; omega)⟩
      unfold OS.part
      rw [hy]
    | cons r rest =>
      have hr : r ∈ s.ys := by rw [hy]; exact List.mem_cons_self ..
      have hr1 := (h.ok.ny.1 r hr).1
      have hr2 := mem_top h.ok.ny (fun j hj => (h.yb j hj).1) r hr
      refine ⟨r.1, r.2, ?_, by omega, by omega, (fun q => (by cases q)), fun _ => (h.yb r.1 (memR_of hr (Nat.le_refl _) hr1)).2⟩
      unfold OS.part
      rw [hy]
  by_cases hlt : f < min t0 (f + m)
  · left
    obtain ⟨g1, g2⟩ := h.goes (f := f) (t := min t0 (f + m)) hlt (by omega)
    exact ⟨f, t0, _, hp, h.base_le (h3 (by omega)), hlt, rfl, by omega, by omega, hcl _ _, g1, g2⟩
  · right
    by_cases he : s.ys = [] ∧ s.sent = s.B.length ∧ s.ende = true
    · exact .inl he
    · refine .inr ⟨f, t0, hp, hft0, by omega, by omega, fun q1 q2 => ?_⟩
      cases q : s.ende with
      | false => rfl
      | true => exact absurd ⟨q1, q2, q⟩ he
end Go.Proofs.YtnneoeimgbemfaaGreat

/- DERIVED. Walk of sender's Next (printed by mksndnext.py). -/
namespace Go.Proofs.YtnneoeimgbemfaaGreat
open Go.RowKit

def zcells : Array Value := #[.int .i64 0, .int .u64 0, .int .u64 0, .slice none 0 0, .bool false, .int .u64 0, .int .u64 0, .int .u64 0, .int .u64 0, .int .u64 0, .slice none 0 0,
    .int .u8 0, .int .u8 0, .int .u8 0, .int .u8 0, .int .u8 0, .int .u8 0, .int .u8 0, .int .u8 0]
theorem zcells_eq : zcells = (encF zeroF).toArray := rfl
def strF (id off : Nat) (v : Value) (fin : Bool) : Fr := ⟨8, id, off, v, fin, 0, 0, 0, 0, 0, .slice none 0 0, 0, 0, 0, 0, 0, 0, 0, 0⟩
/-- Behind the buffer's Next: the sender, the frame to be, the piece. -/
def NxAt (w W : World) (fp : Nat → Prop) (r y : Nat) (s : SS) (v : Value) (og : Option Nat) (data : List Nat) : Prop :=
  ∃ fp', SdAt W r s fp' ∧ Went fp fp' w W ∧ ¬ fp' y ∧ W.heap[y]? = some (.cells zcells 46 (0, 0)) ∧ SlG encB 5 W v og data ∧ (∀ g, og = some g → w.heap.size ≤ g) ∧ og ≠ some y ∧ r < w.heap.size
theorem nx_of {w W W8 : World} {fp fb : Nat → Prop} {r y b : Nat} {s : SS} {o1 : OS} {v : Value} {og : Option Nat} {data : List Nat} (h : SdAt0 w r s b fb) (hfp : fp = fun j => j = r ∨ fb j) (hb : Below w.heap.size w W)
    (hk : W.heap[y]? = some (.cells zcells 46 (0, 0))) (hy : w.heap.size ≤ y) (m : OM W W8 fb b o1) (hsl : SlG encB 5 W8 v og data) (hog : ∀ g, og = some g → W.heap.size ≤ g) (hfi : o1.fi = s.os.fi) :
    NxAt w W8 fp r y { s with os := o1 } v og data := by
  obtain ⟨fb', h1, h2⟩ := m
  have hlt := h.buf.lt.2
  have hr := heap_lt h.blk
  have hyW := heap_lt hk
  have hsz := hb.size
  have m2 : OM w W8 fb b o1 := ⟨fb', h1, h2.first hb⟩
  have hnf : ∀ k, fb' k → fb k ∨ W.heap.size ≤ k := h2.new
  refine ⟨fun j => j = r ∨ fb' j, ⟨b, fb', ⟨?_, h1, fun q => ?_, ⟨h.ok.id, h.ok.st, h.ok.lim, h.ok.rs⟩⟩, rfl⟩, ⟨?_, ?_⟩, ?_, h2.upd.keeps hk (fun q => by have := hlt _ q; omega), hsl, fun g e => by have := hog g e; omega, fun e => by have := hog y e; omega, hr⟩
  · have := h.later m2
    rw [this]
    unfold scells
    rw [← hfi]
  · rcases hnf r q with e | e
    · exact h.ne e
    · omega
  · subst hfp
    exact m2.elim fun _ hx => (hx.2.upd.mono (fun k _ hk => .inr hk))
  · subst hfp
    rintro g (rfl | hg)
    · exact .inl (.inl rfl)
    · rcases hnf g hg with e | e
      · exact .inl (.inr e)
      · right; omega
  · rintro (e | q)
    · omega
    · rcases hnf y q with e | e
      · have := hlt _ e; omega
      · omega
theorem NxAt.drewN {w W : World} {fp : Nat → Prop} {r y : Nat} {s : SS} {v : Value} {og : Option Nat} {data : List Nat} (h : NxAt w W fp r y s v og data) (n : Nat) : NxAt w (W.drewN n) fp r y s v og data := by
  obtain ⟨fp', h1, h2, h3, h4, h5, h6, h7, h8⟩ := h
  exact ⟨fp', h1.drewN n, h2.drewN n, h3, h4, h5.below (below_drewN (Below.refl _ _) n), h6, h7, h8⟩
theorem NxAt.setSt {w W : World} {fp : Nat → Prop} {r y : Nat} {s : SS} {v : Value} {og : Option Nat} {data : List Nat} (h : NxAt w W fp r y s v og data) (k : Nat) (hk : 1 ≤ k ∧ k ≤ 6) : NxAt w (W.setCell ⟨r, 1, none⟩ (.int .i64 k)) fp r y { s with st := k } v og data := by
  obtain ⟨fp', h1, h2, h3, h4, h5, h6, h7, h8⟩ := h
  obtain ⟨b, fb, h0, hfp⟩ := h1
  subst hfp
  have hu : Upd (fun j => j = r) W (W.setCell ⟨r, 1, none⟩ (.int .i64 k)) := (Upd.refl (fun j => j = r) W).setCell ⟨r, 1, none⟩ (.inl rfl) _
  refine ⟨fun j => j = r ∨ fb j, ⟨b, fb, ⟨set_at h0.blk 1 _, h0.own hu, h0.ne, ⟨h0.ok.id, hk, h0.ok.lim, h0.ok.rs⟩⟩, rfl⟩, h2.trans ⟨hu.mono (fun k _ hk => .inl hk), fun g hg => .inl hg⟩, h3, hu.keeps h4 (fun e => h3 (.inl e)), h5.keeps hu (fun g e q => by have := h6 g e; omega), h6, h7, h8⟩
theorem NxAt.cells {w W : World} {fp : Nat → Prop} {r y : Nat} {s : SS} {v : Value} {og : Option Nat} {data : List Nat} (h : NxAt w W fp r y s v og data) : W.cell? ⟨r, 0, none⟩ = some (.int .u64 s.id) ∧ W.cell? ⟨r, 1, none⟩ = some (.int .i64 s.st) ∧ W.cell? ⟨r, 3, none⟩ = some (.int .u64 s.lim) ∧ W.frozen? ⟨r, 1, none⟩ = false ∧ W.heap[y]? = some (.cells zcells 46 (0, 0)) := by
  obtain ⟨fp', h1, h2, h3, h4, h5, h6, h7, h8⟩ := h
  obtain ⟨b, fb, h0, hfp⟩ := h1
  exact ⟨(cell_at h0.blk 0).trans rfl, (cell_at h0.blk 1).trans rfl, (cell_at h0.blk 3).trans rfl, free_at h0.blk 1, h4⟩
/-- The frame is laid down. -/
theorem NxAt.done {w W : World} {fp : Nat → Prop} {r y : Nat} {s : SS} {v : Value} {og : Option Nat} {data : List Nat} (h : NxAt w W fp r y s v og data) (hy : w.heap.size ≤ y) (cs : Array Value) :
    SdM w (W.setRow y cs) fp r s ∧ SlG encB 5 (W.setRow y cs) v og data ∧ ∀ g, og = some g → w.heap.size ≤ g := by
  obtain ⟨fp', h1, h2, h3, h4, h5, h6, h7, h8⟩ := h
  have hu : Upd (fun j => j = y) W (W.setRow y cs) := (Upd.refl (fun j => j = y) W).setRowN y (.inl rfl) cs
  exact ⟨⟨fp', h1.keeps hu (fun k hk e => h3 (e ▸ hk)), ⟨(h2.upd.trans hu (fun _ _ hk => hk) (fun i hi e => by omega)), h2.new⟩⟩, h5.keeps hu (fun g e q => h7 (q ▸ e)), h6⟩
set_option maxRecDepth 100000 in
set_option maxHeartbeats 4000000 in
theorem snext_yes (r : Nat) (s : SS) (fp : Nat → Prop) (room : Int) (more most lim2 off : Nat) (fin : Bool) (o1 : OS) (data : List Nat) (w : World) (h : SdAt w r s fp) (hst : s.st < 5) (hm : min room 512 = (most : Int) + 20) (hmore : more < 18446744073709551616)
    (hr1 : -9223372036854775808 ≤ room) (hr2 : room ≤ 9223372036854775807) (hl : min s.lim (s.os.sent + min more 1099511627776) = lim2) (hfi : o1.fi = s.os.fi)
    (hN : ∀ b fb W, OAt W b s.os fb → Calls Tryz.prog 45 #[.pointer (some ⟨b, 0, none⟩), .int .i64 most, .int .u64 lim2] W fun e w' => ∃ v og, e = .returned (.tuple #[.int .u64 off, v, .bool fin, .bool true]) ∧ OM W w' fb b o1 ∧ SlG encB 5 w' v og data ∧ ∀ g, og = some g → W.heap.size ≤ g) :
    Calls Tryz.prog 26 #[.pointer (some ⟨r, 0, none⟩), .int .i64 room, .int .u64 more] w fun e w' => ∃ v, e = .returned (.tuple #[.agg (encF (strF s.id off v fin)).toArray, .bool true]) ∧
      SdM w w' fp r { s with os := o1, st := max (max s.st 2) (if fin then 3 else 0) } ∧ ∃ og, SlG encB 5 w' v og data ∧ ∀ g, og = some g → w.heap.size ≤ g := by
  have H := Lib.hid h
  obtain ⟨b, fb, h0, hfp⟩ := h
  have H0 := Lib.hid h0
  have HFP := Lib.hid hfp
  have HB := Lib.hid h0.buf
  have HN := Lib.hid hN
  have HFI := Lib.hid hfi
  have hst1 := h0.ok.st
  have hlm := h0.ok.lim
  have c0 : w.cell? ⟨r, 0, none⟩ = some (.int .u64 s.id) := (cell_at h0.blk 0).trans rfl
  have c1 : w.cell? ⟨r, 1, none⟩ = some (.int .i64 s.st) := (cell_at h0.blk 1).trans rfl
  have c3 : w.cell? ⟨r, 3, none⟩ = some (.int .u64 s.lim) := (cell_at h0.blk 3).trans rfl
  have c24 : w.cell? ⟨r, 24, none⟩ = some (.pointer (some ⟨b, 0, none⟩)) := (cell_at h0.blk 24).trans rfl
  have hsn0 : s.os.sent ≤ 1099511627776 := by have := h0.buf.ok.sent; have := h0.buf.ok.len; omega
  obtain ⟨s3, hs3⟩ : ∃ s3 : Nat, max (max s.st 2) (if fin then 3 else 0) = s3 := ⟨_, rfl⟩
  rw [hs3]
  have HS3 := Lib.hid hs3
  obtain ⟨st, hste⟩ : ∃ st, s.st = st := ⟨_, rfl⟩
  obtain ⟨lim, hlme⟩ : ∃ lim, s.lim = lim := ⟨_, rfl⟩
  obtain ⟨sn, hsne⟩ : ∃ sn, s.os.sent = sn := ⟨_, rfl⟩
  obtain ⟨mm, hmme⟩ : ∃ mm, min more 1099511627776 = mm := ⟨_, rfl⟩
  rw [hsne, hmme, hlme] at hl
  rw [hlme] at c3 hlm
  rw [hste] at c1 hst hst1
  rw [hsne] at hsn0
  have HSTE := Lib.hid hste
  have HLME := Lib.hid hlme
  have HSN := Lib.hid hsne
  have HMM := Lib.hid (show (if (1099511627776 : Int) < (more : Int) then (1099511627776 : Int) else (more : Int)) = (mm : Int) by split <;> omega)
  have hmb : mm ≤ 1099511627776 := by omega
  obtain ⟨sm, hsm⟩ : ∃ sm : Nat, (sn : Int) + (mm : Int) = (sm : Int) := ⟨sn + mm, by omega⟩
  have hwa : IntKind.u64.wrap (sm : Int) = sm := IntWalk.u64_in _ (by omega)
  have HL2 := Lib.hid (show (if sm < lim then (sm : Int) else (lim : Int)) = (lim2 : Int) by split <;> omega)
  have hb20 : most ≤ 492 := by omega
  clear hs3 h0 hfp hN hfi hste hlme hsne hmme hl
  go_enter Tryz.func26, Tryz.ntmps26
  go_upto_region 0 with fail
  go_cut [6] (fun v wx => ∃ y, v = .pointer (some ⟨y, 0, none⟩) ∧ w.heap.size ≤ y ∧ Below w.heap.size w wx ∧ wx.heap[y]? = some (.cells zcells 46 (0, 0)))
  case first =>
    go_wp2_with fail
    go_meet
    case rel => exact ⟨_, rfl, Nat.le_refl _, (Below.refl _ _).alloc (Nat.le_refl _) _, alloc_at _ _⟩
  case rest =>
    obtain ⟨y, rfl, hy, hb1, hky⟩ := hcut
    generalize wc = w1 at *
    have HKY := Lib.hid (show ∀ k, (w1.drewN k).heap[y]? = some (.cells zcells 46 (0, 0)) from fun k => hky)
    have HY := Lib.hid hy
    have HBW := Lib.hid (show ∀ k, Below w.heap.size w (w1.drewN k) from fun k => below_drewN hb1 k)
    have hrw := heap_lt H0.out.blk
    have d1 := cell_keep hb1 hrw c1
    have HSof := Lib.hid (show ∀ W, Below w.heap.size w W → W.cell? ⟨r, 24, none⟩ = some (.pointer (some ⟨b, 0, none⟩)) ∧ W.cell? ⟨r, 3, none⟩ = some (.int .u64 lim) from fun W hb => ⟨cell_keep hb hrw c24, cell_keep hb hrw c3⟩)
    have HSof2 := Lib.hid (show ∀ W W8, Below w.heap.size w W → OM W W8 fb b o1 → W8.cell? ⟨r, 24, none⟩ = some (.pointer (some ⟨b, 0, none⟩)) ∧ W8.cell? ⟨r, 3, none⟩ = some (.int .u64 lim) from fun W W8 hb m => by
      obtain ⟨fb', h1, h2⟩ := m
      have hk := H0.out.later (o := o1) ⟨fb', h1, h2.first hb⟩
      refine ⟨(cell_at hk 24).trans rfl, (cell_at hk 3).trans ?_⟩
      rw [← HLME.out]
      rfl)
    clear hb1 hky c0 c1 c3 c24
    go_upto_region 1 with fail
    go_cut [1] (fun v wx => v = .int .i64 ((most : Int) + 20) ∧ wx = w1)
    case first =>
      by_cases h512 : 512 < room
      · obtain rfl : most = 492 := by omega
        go_wp2_with fail
        go_meet
        case rel => exact ⟨rfl, rfl⟩
      · obtain rfl : room = (most : Int) + 20 := by omega
        go_wp2_with fail
        go_meet
        case rel => exact ⟨rfl, rfl⟩
    case rest =>
      obtain ⟨rfl, rfl⟩ := hcut
      generalize wc = w1 at *
      have hst5 : ¬ (5 : Int) ≤ (st : Int) := by omega
      have h20 : ¬ (most : Int) + 20 < 20 := by omega
      have hw20 : IntKind.i64.wrap (most : Int) = most := IntWalk.i64_in _ (by omega)
      go_wp2_with fail
      go_cut [8, 9, 10, 11] (fun a v k o wx => ∃ v', a = .int .u64 off ∧ v = v' ∧ k = .bool fin ∧ o = .bool true ∧ ∃ og, NxAt w wx fp r y { s with os := o1 } v' og data)
      case first =>
        refine wp_region_till (S := fun w' => w'.cell? ⟨r, 24, none⟩ = some (.pointer (some ⟨b, 0, none⟩)) ∧ w'.cell? ⟨r, 3, none⟩ = some (.int .u64 lim)) [] (by kernel_rfl) (by exact HSof.out _ (HBW.out 1)) (fun hHeld => ?_)
        refine wpTill_take0 (i := 0) (oi := ⟨some 45, _, _, _, _, _⟩) (v := ?_) rfl (by kernel_rfl) (fun _ _ _ h => h) (Or.inl ⟨by rfl, ?_⟩) (fun _ => hHeld) ?_
        rotate_left
        · intro w hSw
          (try dsimp only at hSw)
          go_simp
          try with_reducible rfl
        try simp only [Act.put, List.setIfInBounds_toArray, List.set_cons_zero, List.set_cons_succ]
        refine wpTill_take0 (i := 1) (oi := ⟨some 46, _, _, _, _, _⟩) (v := ?_) rfl (by kernel_rfl) (fun _ _ _ h => h) (Or.inl ⟨by rfl, ?_⟩) (fun _ => hHeld) ?_
        rotate_left
        · intro w hSw
          (try dsimp only at hSw)
          go_simp
          try with_reducible rfl
        try simp only [Act.put, List.setIfInBounds_toArray, List.set_cons_zero, List.set_cons_succ]
        refine wpTill_take0 (i := 2) (oi := ⟨some 47, _, _, _, _, _⟩) (v := ?_) rfl (by kernel_rfl) (fun _ _ _ h => h) (Or.inl ⟨by rfl, ?_⟩) (fun _ => hHeld) ?_
        rotate_left
        · intro w hSw
          (try dsimp only at hSw)
          go_simp
          try with_reducible rfl
        try simp only [Act.put, List.setIfInBounds_toArray, List.set_cons_zero, List.set_cons_succ]
        refine wpTill_take (i := 3) (oi := ⟨some 48, _, _, _, _, _⟩) (v := ?_) rfl (by kernel_rfl) (fun _ _ _ h => h) (Or.inl ⟨by rfl, ?_⟩) (by exact hHeld) ?_
        rotate_left
        · intro w hSw
          (try dsimp only at hSw)
          go_simp
          try with_reducible rfl
        try simp only [Act.put, List.setIfInBounds_toArray, List.set_cons_zero, List.set_cons_succ]
        refine wpTill_take0 (i := 4) (oi := ⟨some 49, _, _, _, _, _⟩) (v := ?_) rfl (by kernel_rfl) (fun _ _ _ h => h) (Or.inl ⟨by rfl, ?_⟩) (fun _ => hHeld) ?_
        rotate_left
        · intro w hSw
          (try dsimp only at hSw)
          go_simp
          try with_reducible rfl
        try simp only [Act.put, List.setIfInBounds_toArray, List.set_cons_zero, List.set_cons_succ]
        refine wpTill_take0 (i := 5) (oi := ⟨some 50, _, _, _, _, _⟩) (v := ?_) rfl (by kernel_rfl) (fun _ _ _ h => h) (Or.inl ⟨by rfl, ?_⟩) (fun _ => hHeld) ?_
        rotate_left
        · intro w hSw
          (try dsimp only at hSw)
          go_simp
          try with_reducible rfl
        try simp only [Act.put, List.setIfInBounds_toArray, List.set_cons_zero, List.set_cons_succ]
        refine wpTill_take0 (i := 6) (oi := ⟨some 51, _, _, _, _, _⟩) (v := ?_) rfl (by kernel_rfl) (fun _ _ _ h => h) (Or.inl ⟨by rfl, ?_⟩) (fun _ => hHeld) ?_
        rotate_left
        · intro w hSw
          (try dsimp only at hSw)
          go_simp
          try with_reducible rfl
        try simp only [Act.put, List.setIfInBounds_toArray, List.set_cons_zero, List.set_cons_succ]
        refine wpTill_take0 (i := 7) (oi := ⟨some 52, _, _, _, _, _⟩) (v := ?_) rfl (by kernel_rfl) (fun _ _ _ h => h) (Or.inl ⟨by rfl, ?_⟩) (fun _ => hHeld) ?_
        rotate_left
        · intro w hSw
          (try dsimp only at hSw)
          go_simp
          try with_reducible rfl
        try simp only [Act.put, List.setIfInBounds_toArray, List.set_cons_zero, List.set_cons_succ]
        refine wpTill_take0 (i := 8) (oi := ⟨some 53, _, _, _, _, _⟩) (v := ?_) rfl (by kernel_rfl) (fun _ _ _ h => h) (Or.inl ⟨by rfl, ?_⟩) (fun _ => hHeld) ?_
        rotate_left
        · intro w hSw
          (try dsimp only at hSw)
          go_simp
          try with_reducible rfl
        try simp only [Act.put, List.setIfInBounds_toArray, List.set_cons_zero, List.set_cons_succ]
        refine wpTill_take (i := 9) (oi := ⟨some 54, _, _, _, _, _⟩) (v := ?_) rfl (by kernel_rfl) (fun _ _ _ h => h) (Or.inl ⟨by rfl, ?_⟩) (by exact hHeld) ?_
        rotate_left
        · intro w hSw
          (try dsimp only at hSw)
          go_simp
          try with_reducible rfl
        try simp only [Act.put, List.setIfInBounds_toArray, List.set_cons_zero, List.set_cons_succ]
        refine wpTill_take0 (i := 10) (oi := ⟨some 55, _, _, _, _, _⟩) (v := ?_) rfl (by kernel_rfl) (fun _ _ _ h => h) (Or.inl ⟨by rfl, ?_⟩) (fun _ => hHeld) ?_
        rotate_left
        · intro w hSw
          (try dsimp only at hSw)
          go_simp
          try with_reducible rfl
        try simp only [Act.put, List.setIfInBounds_toArray, List.set_cons_zero, List.set_cons_succ]
        refine wpTill_take0 (i := 12) (oi := ⟨some 57, _, _, _, _, _⟩) (v := ?_) rfl (by kernel_rfl) (fun _ _ _ h => h) (Or.inl ⟨by rfl, ?_⟩) (fun _ => hHeld) ?_
        rotate_left
        · intro w hSw
          (try dsimp only at hSw)
          go_simp
          try with_reducible rfl
        try simp only [Act.put, List.setIfInBounds_toArray, List.set_cons_zero, List.set_cons_succ]
        refine wpTill_take0 (i := 13) (oi := ⟨some 58, _, _, _, _, _⟩) (v := .int .u64 mm) rfl (by kernel_rfl) (fun _ _ _ h => h) (Or.inl ⟨by rfl, ?_⟩) (fun _ => hHeld) ?_
        · intro w hSw
          go_simp
          rw [HMM.out]
        try simp only [Act.put, List.setIfInBounds_toArray, List.set_cons_zero, List.set_cons_succ]
        refine wpTill_ready (rs := [11]) (by kernel_rfl) (by simp) ?_
        refine AllTill.cons (o := ⟨some 56, _, _, _, _, _⟩) rfl (fun K hK => ?_) AllTill.nil
        go_simp
        go_at_call 35
        refine (ssent_q r s fp _ (by exact H.out.below (HBW.out _))).mono ?_
        rw [HSN.out]
        rintro e W8 ⟨rfl, q8, rfl⟩
        go_wp2_with fail
        refine hK.out _ _ (by exact HSof.out _ (HBW.out _)) (fun hHeld => ?_)
        clear hK K
        try simp only [Act.put, List.setIfInBounds_toArray, List.set_cons_zero, List.set_cons_succ]
        refine wpTill_take0 (i := 14) (oi := ⟨some 59, _, _, _, _, _⟩) (v := ?_) rfl (by kernel_rfl) (fun _ _ _ h => h) (Or.inl ⟨by rfl, ?_⟩) (fun _ => hHeld) ?_
        rotate_left
        · intro w hSw
          (try dsimp only at hSw)
          go_simp
          try with_reducible rfl
        try simp only [Act.put, List.setIfInBounds_toArray, List.set_cons_zero, List.set_cons_succ]
        refine wpTill_take0 (i := 15) (oi := ⟨some 60, _, _, _, _, _⟩) (v := .int .u64 lim2) rfl (by kernel_rfl) (fun _ _ _ h => h) (Or.inl ⟨by rfl, ?_⟩) (fun _ => hHeld) ?_
        · intro w hSw
          go_simp
          rw [HL2.out]
        try simp only [Act.put, List.setIfInBounds_toArray, List.set_cons_zero, List.set_cons_succ]
        refine wpTill_ready (rs := [16]) (by kernel_rfl) (by simp) ?_
        refine AllTill.cons (o := ⟨some 61, _, _, _, _, _⟩) rfl (fun K hK => ?_) AllTill.nil
        go_simp
        go_at_call 45
        refine (HN.out b fb _ (by exact HB.out.below (HBW.out _))).mono ?_
        rintro e W16 ⟨v, og, rfl, hm, hsl, hog⟩
        have HS2 := Lib.hid (HSof2.out _ _ (HBW.out _) hm)
        have HNX := Lib.hid (nx_of H0.out HFP.out (HBW.out _) (HKY.out _) HY.out hm hsl hog HFI.out)
        clear hm hsl hog
        go_wp2_with fail
        refine hK.out _ _ (by exact HS2.out) (fun hHeld => ?_)
        clear hK K
        try simp only [Act.put, List.setIfInBounds_toArray, List.set_cons_zero, List.set_cons_succ]
        refine wpTill_take0 (i := 17) (oi := ⟨some 44, _, _, _, _, _⟩) (v := ?_) rfl (by kernel_rfl) (fun _ _ _ h => h) (Or.inl ⟨by rfl, ?_⟩) (fun _ => hHeld) ?_
        rotate_left
        · intro w hSw
          (try dsimp only at hSw)
          go_simp
          try with_reducible rfl
        try simp only [Act.put, List.setIfInBounds_toArray, List.set_cons_zero, List.set_cons_succ]
        refine wpTill_take0 (i := 18) (oi := ⟨some 62, _, _, _, _, _⟩) (v := ?_) rfl (by kernel_rfl) (fun _ _ _ h => h) (Or.inl ⟨by rfl, ?_⟩) (fun _ => hHeld) ?_
        rotate_left
        · intro w hSw
          (try dsimp only at hSw)
          go_simp
          try with_reducible rfl
        try simp only [Act.put, List.setIfInBounds_toArray, List.set_cons_zero, List.set_cons_succ]
        refine wpTill_take0 (i := 19) (oi := ⟨some 63, _, _, _, _, _⟩) (v := ?_) rfl (by kernel_rfl) (fun _ _ _ h => h) (Or.inl ⟨by rfl, ?_⟩) (fun _ => hHeld) ?_
        rotate_left
        · intro w hSw
          (try dsimp only at hSw)
          go_simp
          try with_reducible rfl
        try simp only [Act.put, List.setIfInBounds_toArray, List.set_cons_zero, List.set_cons_succ]
        refine wpTill_take0 (i := 20) (oi := ⟨some 64, _, _, _, _, _⟩) (v := ?_) rfl (by kernel_rfl) (fun _ _ _ h => h) (Or.inl ⟨by rfl, ?_⟩) (fun _ => hHeld) ?_
        rotate_left
        · intro w hSw
          (try dsimp only at hSw)
          go_simp
          try with_reducible rfl
        try simp only [Act.put, List.setIfInBounds_toArray, List.set_cons_zero, List.set_cons_succ]
        refine wpTill_take0 (i := 21) (oi := ⟨some 65, _, _, _, _, _⟩) (v := ?_) rfl (by kernel_rfl) (fun _ _ _ h => h) (Or.inl ⟨by rfl, ?_⟩) (fun _ => hHeld) ?_
        rotate_left
        · intro w hSw
          (try dsimp only at hSw)
          go_simp
          try with_reducible rfl
        try simp only [Act.put, List.setIfInBounds_toArray, List.set_cons_zero, List.set_cons_succ]
        refine wpTill_take0 (i := 22) (oi := ⟨some 8, _, _, _, _, _⟩) (v := ?_) rfl (by kernel_rfl) (fun _ _ _ h => h) (Or.inl ⟨by rfl, ?_⟩) (fun _ => hHeld) ?_
        rotate_left
        · intro w hSw
          (try dsimp only at hSw)
          go_simp
          try with_reducible rfl
        try simp only [Act.put, List.setIfInBounds_toArray, List.set_cons_zero, List.set_cons_succ]
        refine wpTill_take0 (i := 23) (oi := ⟨some 9, _, _, _, _, _⟩) (v := ?_) rfl (by kernel_rfl) (fun _ _ _ h => h) (Or.inl ⟨by rfl, ?_⟩) (fun _ => hHeld) ?_
        rotate_left
        · intro w hSw
          (try dsimp only at hSw)
          go_simp
          try with_reducible rfl
        try simp only [Act.put, List.setIfInBounds_toArray, List.set_cons_zero, List.set_cons_succ]
        refine wpTill_take0 (i := 24) (oi := ⟨some 10, _, _, _, _, _⟩) (v := ?_) rfl (by kernel_rfl) (fun _ _ _ h => h) (Or.inl ⟨by rfl, ?_⟩) (fun _ => hHeld) ?_
        rotate_left
        · intro w hSw
          (try dsimp only at hSw)
          go_simp
          try with_reducible rfl
        try simp only [Act.put, List.setIfInBounds_toArray, List.set_cons_zero, List.set_cons_succ]
        refine wpTill_take0 (i := 25) (oi := ⟨some 11, _, _, _, _, _⟩) (v := ?_) rfl (by kernel_rfl) (fun _ _ _ h => h) (Or.inl ⟨by rfl, ?_⟩) (fun _ => hHeld) ?_
        rotate_left
        · intro w hSw
          (try dsimp only at hSw)
          go_simp
          try with_reducible rfl
        try simp only [Act.put, List.setIfInBounds_toArray, List.set_cons_zero, List.set_cons_succ]
        refine wpTill_done (by kernel_rfl) ?_ _
        go_wp2_with fail
        go_meet
        case rel => exact ⟨v, rfl, rfl, rfl, rfl, og, HNX.out⟩
      case rest =>
        obtain ⟨v, rfl, hv9, rfl, rfl, og, hnx⟩ := hcut
        rw [hv9]
        clear hv9
        generalize wc = w2 at *
        obtain ⟨e0, e1, _, q1, e4⟩ := hnx.cells
        simp only at e0 e1
        rw [HSTE.out] at e1
        obtain ⟨ov, cv, rfl⟩ : ∃ ov cv, v = .slice ov data.length cv := by
          obtain ⟨_, _, _, _, _, hsl, _⟩ := hnx
          obtain ⟨ov, cv, e, _, _⟩ := hsl.vw.shape
          exact ⟨ov, cv, e⟩
        have HNX := Lib.hid hnx
        clear hnx HSof HSof2 HBW HKY HN hst5 h20 hw20 hwa HL2 HMM hsm
        obtain ⟨s2, hs2⟩ : ∃ s2 : Nat, max st 2 = s2 := ⟨_, rfl⟩
        have hs3 : max s2 (if fin then 3 else 0) = s3 := by rw [← hs2, ← HSTE.out]; exact HS3.out
        by_cases h2 : st < 2
        · obtain rfl : s2 = 2 := by omega
          have h2i : (st : Int) < 2 := by omega
          cases fin
          · obtain rfl : s3 = 2 := by simpa using hs3.symm
            have HN3 := Lib.hid (show NxAt w _ fp r y { s with os := o1, st := 2 } (.slice ov data.length cv) og data from HNX.out.setSt 2 ⟨by omega, by omega⟩)
            have HYK := Lib.hid HN3.out.cells.2.2.2.2
            go_wp2_with (refine wpList_store_row rfl 46 (.tmp 6) (.tmp 93) rfl _ _ rfl rfl 46 zcells (by exact HYK.out) (by rw [sizeF]; rfl) rfl (by simp [Value.oneCell']) ?_)
            (try simp only [Exit.inBlock, Exit.then])
            refine bodyPost_ret (results_row_tmp rfl _ _ y 46 #[.int .i64 8, .int .u64 s.id, .int .u64 off, .slice ov data.length cv, .bool false, .int .u64 0, .int .u64 0, .int .u64 0, .int .u64 0, .int .u64 0, .slice none 0 0, .int .u8 0, .int .u8 0, .int .u8 0, .int .u8 0, .int .u8 0, .int .u8 0, .int .u8 0, .int .u8 0] (0, 0) _ rfl (setRow_heap _ y _ _ _ _ HYK.out) Tryz.underlying46 rfl (by rw [sizeF]; rfl)) rfl ?_
            exact ⟨_, rfl, (HN3.out.done HY.out _).1, og, (HN3.out.done HY.out _).2⟩
          · obtain rfl : s3 = 3 := by simpa using hs3.symm
            have HN3 := Lib.hid (show NxAt w _ fp r y { s with os := o1, st := 3 } (.slice ov data.length cv) og data from (HNX.out.setSt 2 ⟨by omega, by omega⟩).setSt 3 ⟨by omega, by omega⟩)
            have HYK := Lib.hid HN3.out.cells.2.2.2.2
            go_wp2_with (refine wpList_store_row rfl 46 (.tmp 6) (.tmp 93) rfl _ _ rfl rfl 46 zcells (by exact HYK.out) (by rw [sizeF]; rfl) rfl (by simp [Value.oneCell']) ?_)
            (try simp only [Exit.inBlock, Exit.then])
            refine bodyPost_ret (results_row_tmp rfl _ _ y 46 #[.int .i64 8, .int .u64 s.id, .int .u64 off, .slice ov data.length cv, .bool true, .int .u64 0, .int .u64 0, .int .u64 0, .int .u64 0, .int .u64 0, .slice none 0 0, .int .u8 0, .int .u8 0, .int .u8 0, .int .u8 0, .int .u8 0, .int .u8 0, .int .u8 0, .int .u8 0] (0, 0) _ rfl (setRow_heap _ y _ _ _ _ HYK.out) Tryz.underlying46 rfl (by rw [sizeF]; rfl)) rfl ?_
            exact ⟨_, rfl, (HN3.out.done HY.out _).1, og, (HN3.out.done HY.out _).2⟩
        · obtain rfl : s2 = st := by omega
          have h2i : ¬ (s2 : Int) < 2 := by omega
          cases fin
          · obtain rfl : s3 = s2 := by simpa using hs3.symm
            have HN3 := Lib.hid (show NxAt w _ fp r y { s with os := o1, st := s3 } (.slice ov data.length cv) og data from HNX.out.setSt s3 ⟨by omega, by omega⟩)
            have HYK := Lib.hid HN3.out.cells.2.2.2.2
            go_wp2_with (refine wpList_store_row rfl 46 (.tmp 6) (.tmp 93) rfl _ _ rfl rfl 46 zcells (by exact HYK.out) (by rw [sizeF]; rfl) rfl (by simp [Value.oneCell']) ?_)
            (try simp only [Exit.inBlock, Exit.then])
            refine bodyPost_ret (results_row_tmp rfl _ _ y 46 #[.int .i64 8, .int .u64 s.id, .int .u64 off, .slice ov data.length cv, .bool false, .int .u64 0, .int .u64 0, .int .u64 0, .int .u64 0, .int .u64 0, .slice none 0 0, .int .u8 0, .int .u8 0, .int .u8 0, .int .u8 0, .int .u8 0, .int .u8 0, .int .u8 0, .int .u8 0] (0, 0) _ rfl (setRow_heap _ y _ _ _ _ HYK.out) Tryz.underlying46 rfl (by rw [sizeF]; rfl)) rfl ?_
            exact ⟨_, rfl, (HN3.out.done HY.out _).1, og, (HN3.out.done HY.out _).2⟩
          · by_cases h3 : s2 < 3
            · obtain rfl : s3 = 3 := by simp at hs3; omega
              have h3i : (s2 : Int) < 3 := by omega
              have HN3 := Lib.hid (show NxAt w _ fp r y { s with os := o1, st := 3 } (.slice ov data.length cv) og data from (HNX.out.setSt s2 ⟨by omega, by omega⟩).setSt 3 ⟨by omega, by omega⟩)
              have HYK := Lib.hid HN3.out.cells.2.2.2.2
              go_wp2_with (refine wpList_store_row rfl 46 (.tmp 6) (.tmp 93) rfl _ _ rfl rfl 46 zcells (by exact HYK.out) (by rw [sizeF]; rfl) rfl (by simp [Value.oneCell']) ?_)
              (try simp only [Exit.inBlock, Exit.then])
              refine bodyPost_ret (results_row_tmp rfl _ _ y 46 #[.int .i64 8, .int .u64 s.id, .int .u64 off, .slice ov data.length cv, .bool true, .int .u64 0, .int .u64 0, .int .u64 0, .int .u64 0, .int .u64 0, .slice none 0 0, .int .u8 0, .int .u8 0, .int .u8 0, .int .u8 0, .int .u8 0, .int .u8 0, .int .u8 0, .int .u8 0] (0, 0) _ rfl (setRow_heap _ y _ _ _ _ HYK.out) Tryz.underlying46 rfl (by rw [sizeF]; rfl)) rfl ?_
              exact ⟨_, rfl, (HN3.out.done HY.out _).1, og, (HN3.out.done HY.out _).2⟩
            · obtain rfl : s3 = s2 := by simp at hs3; omega
              have h3i : ¬ (s3 : Int) < 3 := by omega
              have HN3 := Lib.hid (show NxAt w _ fp r y { s with os := o1, st := s3 } (.slice ov data.length cv) og data from (HNX.out.setSt s3 ⟨by omega, by omega⟩).setSt s3 ⟨by omega, by omega⟩)
              have HYK := Lib.hid HN3.out.cells.2.2.2.2
              go_wp2_with (refine wpList_store_row rfl 46 (.tmp 6) (.tmp 93) rfl _ _ rfl rfl 46 zcells (by exact HYK.out) (by rw [sizeF]; rfl) rfl (by simp [Value.oneCell']) ?_)
              (try simp only [Exit.inBlock, Exit.then])
              refine bodyPost_ret (results_row_tmp rfl _ _ y 46 #[.int .i64 8, .int .u64 s.id, .int .u64 off, .slice ov data.length cv, .bool true, .int .u64 0, .int .u64 0, .int .u64 0, .int .u64 0, .int .u64 0, .slice none 0 0, .int .u8 0, .int .u8 0, .int .u8 0, .int .u8 0, .int .u8 0, .int .u8 0, .int .u8 0, .int .u8 0] (0, 0) _ rfl (setRow_heap _ y _ _ _ _ HYK.out) Tryz.underlying46 rfl (by rw [sizeF]; rfl)) rfl ?_
              exact ⟨_, rfl, (HN3.out.done HY.out _).1, og, (HN3.out.done HY.out _).2⟩
end Go.Proofs.YtnneoeimgbemfaaGreat

/- DERIVED. Walk of sender's Next, where no piece goes (printed by mksndnext2.py). -/
namespace Go.Proofs.YtnneoeimgbemfaaGreat
open Go.RowKit

set_option maxRecDepth 100000 in
set_option maxHeartbeats 4000000 in
theorem snext_no (r : Nat) (s : SS) (fp : Nat → Prop) (room : Int) (more most lim2 : Nat) (w : World) (h : SdAt w r s fp) (hst : s.st < 5) (hm : min room 512 = (most : Int) + 20) (hmore : more < 18446744073709551616)
    (hr1 : -9223372036854775808 ≤ room) (hr2 : room ≤ 9223372036854775807) (hl : min s.lim (s.os.sent + min more 1099511627776) = lim2)
    (hN : ∀ b fb W, OAt W b s.os fb → Calls Tryz.prog 45 #[.pointer (some ⟨b, 0, none⟩), .int .i64 most, .int .u64 lim2] W fun e w' => e = .returned (.tuple #[.int .u64 0, .slice none 0 0, .bool false, .bool false]) ∧ Below W.heap.size W w') :
    Calls Tryz.prog 26 #[.pointer (some ⟨r, 0, none⟩), .int .i64 room, .int .u64 more] w fun e w' => e = .returned (.tuple #[.agg (encF zeroF).toArray, .bool false]) ∧ Below w.heap.size w w' := by
  have H := Lib.hid h
  obtain ⟨b, fb, h0, hfp⟩ := h
  have H0 := Lib.hid h0
  have HFP := Lib.hid hfp
  have HB := Lib.hid h0.buf
  have HN := Lib.hid hN
  have hst1 := h0.ok.st
  have hlm := h0.ok.lim
  have c0 : w.cell? ⟨r, 0, none⟩ = some (.int .u64 s.id) := (cell_at h0.blk 0).trans rfl
  have c1 : w.cell? ⟨r, 1, none⟩ = some (.int .i64 s.st) := (cell_at h0.blk 1).trans rfl
  have c3 : w.cell? ⟨r, 3, none⟩ = some (.int .u64 s.lim) := (cell_at h0.blk 3).trans rfl
  have c24 : w.cell? ⟨r, 24, none⟩ = some (.pointer (some ⟨b, 0, none⟩)) := (cell_at h0.blk 24).trans rfl
  have hsn0 : s.os.sent ≤ 1099511627776 := by have := h0.buf.ok.sent; have := h0.buf.ok.len; omega
  obtain ⟨st, hste⟩ : ∃ st, s.st = st := ⟨_, rfl⟩
  obtain ⟨lim, hlme⟩ : ∃ lim, s.lim = lim := ⟨_, rfl⟩
  obtain ⟨sn, hsne⟩ : ∃ sn, s.os.sent = sn := ⟨_, rfl⟩
  obtain ⟨mm, hmme⟩ : ∃ mm, min more 1099511627776 = mm := ⟨_, rfl⟩
  rw [hsne, hmme, hlme] at hl
  rw [hlme] at c3 hlm
  rw [hste] at c1 hst hst1
  rw [hsne] at hsn0
  have HSTE := Lib.hid hste
  have HLME := Lib.hid hlme
  have HSN := Lib.hid hsne
  have HMM := Lib.hid (show (if (1099511627776 : Int) < (more : Int) then (1099511627776 : Int) else (more : Int)) = (mm : Int) by split <;> omega)
  have hmb : mm ≤ 1099511627776 := by omega
  obtain ⟨sm, hsm⟩ : ∃ sm : Nat, (sn : Int) + (mm : Int) = (sm : Int) := ⟨sn + mm, by omega⟩
  have hwa : IntKind.u64.wrap (sm : Int) = sm := IntWalk.u64_in _ (by omega)
  have HL2 := Lib.hid (show (if sm < lim then (sm : Int) else (lim : Int)) = (lim2 : Int) by split <;> omega)
  have hb20 : most ≤ 492 := by omega
  clear h0 hfp hN hste hlme hsne hmme hl
  go_enter Tryz.func26, Tryz.ntmps26
  go_upto_region 0 with fail
  go_cut [6] (fun v wx => ∃ y, v = .pointer (some ⟨y, 0, none⟩) ∧ w.heap.size ≤ y ∧ Below w.heap.size w wx ∧ wx.heap[y]? = some (.cells zcells 46 (0, 0)))
  case first =>
    go_wp2_with fail
    go_meet
    case rel => exact ⟨_, rfl, Nat.le_refl _, (Below.refl _ _).alloc (Nat.le_refl _) _, alloc_at _ _⟩
  case rest =>
    obtain ⟨y, rfl, hy, hb1, hky⟩ := hcut
    generalize wc = w1 at *
    have HKY := Lib.hid (show ∀ k, (w1.drewN k).heap[y]? = some (.cells zcells 46 (0, 0)) from fun k => hky)
    have HY := Lib.hid hy
    have HBW := Lib.hid (show ∀ k, Below w.heap.size w (w1.drewN k) from fun k => below_drewN hb1 k)
    have hrw := heap_lt H0.out.blk
    have d1 := cell_keep hb1 hrw c1
    have HSof := Lib.hid (show ∀ W, Below w.heap.size w W → W.cell? ⟨r, 24, none⟩ = some (.pointer (some ⟨b, 0, none⟩)) ∧ W.cell? ⟨r, 3, none⟩ = some (.int .u64 lim) from fun W hb => ⟨cell_keep hb hrw c24, cell_keep hb hrw c3⟩)
    clear hb1 hky c0 c1 c3 c24
    go_upto_region 1 with fail
    go_cut [1] (fun v wx => v = .int .i64 ((most : Int) + 20) ∧ wx = w1)
    case first =>
      by_cases h512 : 512 < room
      · obtain rfl : most = 492 := by omega
        go_wp2_with fail
        go_meet
        case rel => exact ⟨rfl, rfl⟩
      · obtain rfl : room = (most : Int) + 20 := by omega
        go_wp2_with fail
        go_meet
        case rel => exact ⟨rfl, rfl⟩
    case rest =>
      obtain ⟨rfl, rfl⟩ := hcut
      generalize wc = w1 at *
      have hst5 : ¬ (5 : Int) ≤ (st : Int) := by omega
      have h20 : ¬ (most : Int) + 20 < 20 := by omega
      have hw20 : IntKind.i64.wrap (most : Int) = most := IntWalk.i64_in _ (by omega)
      go_wp2_with fail
      go_cut [8, 9, 10, 11] (fun a v k o wx => o = .bool false ∧ Below w.heap.size w wx ∧ wx.heap[y]? = some (.cells zcells 46 (0, 0)))
      case first =>
        refine wp_region_till (S := fun w' => w'.cell? ⟨r, 24, none⟩ = some (.pointer (some ⟨b, 0, none⟩)) ∧ w'.cell? ⟨r, 3, none⟩ = some (.int .u64 lim)) [] (by kernel_rfl) (by exact HSof.out _ (HBW.out 1)) (fun hHeld => ?_)
        refine wpTill_take0 (i := 0) (oi := ⟨some 45, _, _, _, _, _⟩) (v := ?_) rfl (by kernel_rfl) (fun _ _ _ h => h) (Or.inl ⟨by rfl, ?_⟩) (fun _ => hHeld) ?_
        rotate_left
        · intro w hSw
          (try dsimp only at hSw)
          go_simp
          try with_reducible rfl
        try simp only [Act.put, List.setIfInBounds_toArray, List.set_cons_zero, List.set_cons_succ]
        refine wpTill_take0 (i := 1) (oi := ⟨some 46, _, _, _, _, _⟩) (v := ?_) rfl (by kernel_rfl) (fun _ _ _ h => h) (Or.inl ⟨by rfl, ?_⟩) (fun _ => hHeld) ?_
        rotate_left
        · intro w hSw
          (try dsimp only at hSw)
          go_simp
          try with_reducible rfl
        try simp only [Act.put, List.setIfInBounds_toArray, List.set_cons_zero, List.set_cons_succ]
        refine wpTill_take0 (i := 2) (oi := ⟨some 47, _, _, _, _, _⟩) (v := ?_) rfl (by kernel_rfl) (fun _ _ _ h => h) (Or.inl ⟨by rfl, ?_⟩) (fun _ => hHeld) ?_
        rotate_left
        · intro w hSw
          (try dsimp only at hSw)
          go_simp
          try with_reducible rfl
        try simp only [Act.put, List.setIfInBounds_toArray, List.set_cons_zero, List.set_cons_succ]
        refine wpTill_take (i := 3) (oi := ⟨some 48, _, _, _, _, _⟩) (v := ?_) rfl (by kernel_rfl) (fun _ _ _ h => h) (Or.inl ⟨by rfl, ?_⟩) (by exact hHeld) ?_
        rotate_left
        · intro w hSw
          (try dsimp only at hSw)
          go_simp
          try with_reducible rfl
        try simp only [Act.put, List.setIfInBounds_toArray, List.set_cons_zero, List.set_cons_succ]
        refine wpTill_take0 (i := 4) (oi := ⟨some 49, _, _, _, _, _⟩) (v := ?_) rfl (by kernel_rfl) (fun _ _ _ h => h) (Or.inl ⟨by rfl, ?_⟩) (fun _ => hHeld) ?_
        rotate_left
        · intro w hSw
          (try dsimp only at hSw)
          go_simp
          try with_reducible rfl
        try simp only [Act.put, List.setIfInBounds_toArray, List.set_cons_zero, List.set_cons_succ]
        refine wpTill_take0 (i := 5) (oi := ⟨some 50, _, _, _, _, _⟩) (v := ?_) rfl (by kernel_rfl) (fun _ _ _ h => h) (Or.inl ⟨by rfl, ?_⟩) (fun _ => hHeld) ?_
        rotate_left
        · intro w hSw
          (try dsimp only at hSw)
          go_simp
          try with_reducible rfl
        try simp only [Act.put, List.setIfInBounds_toArray, List.set_cons_zero, List.set_cons_succ]
        refine wpTill_take0 (i := 6) (oi := ⟨some 51, _, _, _, _, _⟩) (v := ?_) rfl (by kernel_rfl) (fun _ _ _ h => h) (Or.inl ⟨by rfl, ?_⟩) (fun _ => hHeld) ?_
        rotate_left
        · intro w hSw
          (try dsimp only at hSw)
          go_simp
          try with_reducible rfl
        try simp only [Act.put, List.setIfInBounds_toArray, List.set_cons_zero, List.set_cons_succ]
        refine wpTill_take0 (i := 7) (oi := ⟨some 52, _, _, _, _, _⟩) (v := ?_) rfl (by kernel_rfl) (fun _ _ _ h => h) (Or.inl ⟨by rfl, ?_⟩) (fun _ => hHeld) ?_
        rotate_left
        · intro w hSw
          (try dsimp only at hSw)
          go_simp
          try with_reducible rfl
        try simp only [Act.put, List.setIfInBounds_toArray, List.set_cons_zero, List.set_cons_succ]
        refine wpTill_take0 (i := 8) (oi := ⟨some 53, _, _, _, _, _⟩) (v := ?_) rfl (by kernel_rfl) (fun _ _ _ h => h) (Or.inl ⟨by rfl, ?_⟩) (fun _ => hHeld) ?_
        rotate_left
        · intro w hSw
          (try dsimp only at hSw)
          go_simp
          try with_reducible rfl
        try simp only [Act.put, List.setIfInBounds_toArray, List.set_cons_zero, List.set_cons_succ]
        refine wpTill_take (i := 9) (oi := ⟨some 54, _, _, _, _, _⟩) (v := ?_) rfl (by kernel_rfl) (fun _ _ _ h => h) (Or.inl ⟨by rfl, ?_⟩) (by exact hHeld) ?_
        rotate_left
        · intro w hSw
          (try dsimp only at hSw)
          go_simp
          try with_reducible rfl
        try simp only [Act.put, List.setIfInBounds_toArray, List.set_cons_zero, List.set_cons_succ]
        refine wpTill_take0 (i := 10) (oi := ⟨some 55, _, _, _, _, _⟩) (v := ?_) rfl (by kernel_rfl) (fun _ _ _ h => h) (Or.inl ⟨by rfl, ?_⟩) (fun _ => hHeld) ?_
        rotate_left
        · intro w hSw
          (try dsimp only at hSw)
          go_simp
          try with_reducible rfl
        try simp only [Act.put, List.setIfInBounds_toArray, List.set_cons_zero, List.set_cons_succ]
        refine wpTill_take0 (i := 12) (oi := ⟨some 57, _, _, _, _, _⟩) (v := ?_) rfl (by kernel_rfl) (fun _ _ _ h => h) (Or.inl ⟨by rfl, ?_⟩) (fun _ => hHeld) ?_
        rotate_left
        · intro w hSw
          (try dsimp only at hSw)
          go_simp
          try with_reducible rfl
        try simp only [Act.put, List.setIfInBounds_toArray, List.set_cons_zero, List.set_cons_succ]
        refine wpTill_take0 (i := 13) (oi := ⟨some 58, _, _, _, _, _⟩) (v := .int .u64 mm) rfl (by kernel_rfl) (fun _ _ _ h => h) (Or.inl ⟨by rfl, ?_⟩) (fun _ => hHeld) ?_
        · intro w hSw
          go_simp
          rw [HMM.out]
        try simp only [Act.put, List.setIfInBounds_toArray, List.set_cons_zero, List.set_cons_succ]
        refine wpTill_ready (rs := [11]) (by kernel_rfl) (by simp) ?_
        refine AllTill.cons (o := ⟨some 56, _, _, _, _, _⟩) rfl (fun K hK => ?_) AllTill.nil
        go_simp
        go_at_call 35
        refine (ssent_q r s fp _ (by exact H.out.below (HBW.out _))).mono ?_
        rw [HSN.out]
        rintro e W8 ⟨rfl, q8, rfl⟩
        go_wp2_with fail
        refine hK.out _ _ (by exact HSof.out _ (HBW.out _)) (fun hHeld => ?_)
        clear hK K
        try simp only [Act.put, List.setIfInBounds_toArray, List.set_cons_zero, List.set_cons_succ]
        refine wpTill_take0 (i := 14) (oi := ⟨some 59, _, _, _, _, _⟩) (v := ?_) rfl (by kernel_rfl) (fun _ _ _ h => h) (Or.inl ⟨by rfl, ?_⟩) (fun _ => hHeld) ?_
        rotate_left
        · intro w hSw
          (try dsimp only at hSw)
          go_simp
          try with_reducible rfl
        try simp only [Act.put, List.setIfInBounds_toArray, List.set_cons_zero, List.set_cons_succ]
        refine wpTill_take0 (i := 15) (oi := ⟨some 60, _, _, _, _, _⟩) (v := .int .u64 lim2) rfl (by kernel_rfl) (fun _ _ _ h => h) (Or.inl ⟨by rfl, ?_⟩) (fun _ => hHeld) ?_
        · intro w hSw
          go_simp
          rw [HL2.out]
        try simp only [Act.put, List.setIfInBounds_toArray, List.set_cons_zero, List.set_cons_succ]
        refine wpTill_ready (rs := [16]) (by kernel_rfl) (by simp) ?_
        refine AllTill.cons (o := ⟨some 61, _, _, _, _, _⟩) rfl (fun K hK => ?_) AllTill.nil
        go_simp
        go_at_call 45
        refine (HN.out b fb _ (by exact HB.out.below (HBW.out _))).mono ?_
        rintro e W16 ⟨rfl, hm⟩
        have HM16 := Lib.hid (below_call (HBW.out _) (HBW.out _).size hm)
        have HK16 := Lib.hid (below_keeps hm (HKY.out _) (heap_lt (HKY.out _)))
        clear hm
        go_wp2_with fail
        refine hK.out _ _ (by exact HSof.out _ HM16.out) (fun hHeld => ?_)
        clear hK K
        try simp only [Act.put, List.setIfInBounds_toArray, List.set_cons_zero, List.set_cons_succ]
        refine wpTill_take0 (i := 17) (oi := ⟨some 44, _, _, _, _, _⟩) (v := ?_) rfl (by kernel_rfl) (fun _ _ _ h => h) (Or.inl ⟨by rfl, ?_⟩) (fun _ => hHeld) ?_
        rotate_left
        · intro w hSw
          (try dsimp only at hSw)
          go_simp
          try with_reducible rfl
        try simp only [Act.put, List.setIfInBounds_toArray, List.set_cons_zero, List.set_cons_succ]
        refine wpTill_take0 (i := 18) (oi := ⟨some 62, _, _, _, _, _⟩) (v := ?_) rfl (by kernel_rfl) (fun _ _ _ h => h) (Or.inl ⟨by rfl, ?_⟩) (fun _ => hHeld) ?_
        rotate_left
        · intro w hSw
          (try dsimp only at hSw)
          go_simp
          try with_reducible rfl
        try simp only [Act.put, List.setIfInBounds_toArray, List.set_cons_zero, List.set_cons_succ]
        refine wpTill_take0 (i := 19) (oi := ⟨some 63, _, _, _, _, _⟩) (v := ?_) rfl (by kernel_rfl) (fun _ _ _ h => h) (Or.inl ⟨by rfl, ?_⟩) (fun _ => hHeld) ?_
        rotate_left
        · intro w hSw
          (try dsimp only at hSw)
          go_simp
          try with_reducible rfl
        try simp only [Act.put, List.setIfInBounds_toArray, List.set_cons_zero, List.set_cons_succ]
        refine wpTill_take0 (i := 20) (oi := ⟨some 64, _, _, _, _, _⟩) (v := ?_) rfl (by kernel_rfl) (fun _ _ _ h => h) (Or.inl ⟨by rfl, ?_⟩) (fun _ => hHeld) ?_
        rotate_left
        · intro w hSw
          (try dsimp only at hSw)
          go_simp
          try with_reducible rfl
        try simp only [Act.put, List.setIfInBounds_toArray, List.set_cons_zero, List.set_cons_succ]
        refine wpTill_take0 (i := 21) (oi := ⟨some 65, _, _, _, _, _⟩) (v := ?_) rfl (by kernel_rfl) (fun _ _ _ h => h) (Or.inl ⟨by rfl, ?_⟩) (fun _ => hHeld) ?_
        rotate_left
        · intro w hSw
          (try dsimp only at hSw)
          go_simp
          try with_reducible rfl
        try simp only [Act.put, List.setIfInBounds_toArray, List.set_cons_zero, List.set_cons_succ]
        refine wpTill_take0 (i := 22) (oi := ⟨some 8, _, _, _, _, _⟩) (v := ?_) rfl (by kernel_rfl) (fun _ _ _ h => h) (Or.inl ⟨by rfl, ?_⟩) (fun _ => hHeld) ?_
        rotate_left
        · intro w hSw
          (try dsimp only at hSw)
          go_simp
          try with_reducible rfl
        try simp only [Act.put, List.setIfInBounds_toArray, List.set_cons_zero, List.set_cons_succ]
        refine wpTill_take0 (i := 23) (oi := ⟨some 9, _, _, _, _, _⟩) (v := ?_) rfl (by kernel_rfl) (fun _ _ _ h => h) (Or.inl ⟨by rfl, ?_⟩) (fun _ => hHeld) ?_
        rotate_left
        · intro w hSw
          (try dsimp only at hSw)
          go_simp
          try with_reducible rfl
        try simp only [Act.put, List.setIfInBounds_toArray, List.set_cons_zero, List.set_cons_succ]
        refine wpTill_take0 (i := 24) (oi := ⟨some 10, _, _, _, _, _⟩) (v := ?_) rfl (by kernel_rfl) (fun _ _ _ h => h) (Or.inl ⟨by rfl, ?_⟩) (fun _ => hHeld) ?_
        rotate_left
        · intro w hSw
          (try dsimp only at hSw)
          go_simp
          try with_reducible rfl
        try simp only [Act.put, List.setIfInBounds_toArray, List.set_cons_zero, List.set_cons_succ]
        refine wpTill_take0 (i := 25) (oi := ⟨some 11, _, _, _, _, _⟩) (v := ?_) rfl (by kernel_rfl) (fun _ _ _ h => h) (Or.inl ⟨by rfl, ?_⟩) (fun _ => hHeld) ?_
        rotate_left
        · intro w hSw
          (try dsimp only at hSw)
          go_simp
          try with_reducible rfl
        try simp only [Act.put, List.setIfInBounds_toArray, List.set_cons_zero, List.set_cons_succ]
        refine wpTill_done (by kernel_rfl) ?_ _
        go_wp2_with fail
        go_meet
        case rel => exact ⟨rfl, HM16.out, HK16.out⟩
      case rest =>
        obtain ⟨rfl, hb2, hk2⟩ := hcut
        generalize wc = w2 at *
        have HYK := Lib.hid hk2
        have HB2 := Lib.hid hb2
        clear hb2 hk2 HSof HBW HKY HN hst5 h20 hw20 hwa HL2 HMM hsm
        go_wp2_with (refine wpList_store_row rfl 46 (.tmp 6) (.tmp 68) rfl _ _ rfl rfl 46 zcells (by exact HYK.out) (by rw [sizeF]; rfl) rfl (by simp [Value.oneCell']) ?_)
        (try simp only [Exit.inBlock, Exit.then])
        refine bodyPost_ret (results_row_tmp rfl _ _ y 46 zcells (0, 0) _ rfl (setRow_heap _ y _ _ _ _ HYK.out) Tryz.underlying46 rfl (by rw [sizeF]; rfl)) rfl ?_
        exact ⟨rfl, setRow_below HB2.out HY.out⟩
end Go.Proofs.YtnneoeimgbemfaaGreat
