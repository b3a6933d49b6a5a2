/- DERIVED. streams: credit (printed by mkstcred.py). -/
import Derived.Laws.ResultCell
import Derived.Test.YtnneoeimgbemfaaGreatQH3
import Derived.Test.YtnneoeimgbemfaaGreatQH7
import Derived.Test.YtnneoeimgbemfaaGreatQH8
import Derived.Test.YtnneoeimgbemfaaGreatQH13
import Derived.Test.YtnneoeimgbemfaaGreatQH18
import Derived.Test.YtnneoeimgbemfaaGreatQH19
set_option linter.all false
namespace Go.Proofs.YtnneoeimgbemfaaGreat
open Go.RowKit

def dataF (L : Nat) : Fr := ⟨16, 0, 0, .slice none 0 0, false, L, 0, 0, 0, 0, .slice none 0 0, 0, 0, 0, 0, 0, 0, 0, 0⟩
def size16 (f : Fr) : Nat := if right16 f then (bytes16 f).length else 0
theorem size16_int (f : Fr) : (if right16 f then ((bytes16 f).length : Int) else 0) = (size16 f : Int) := by unfold size16; split <;> rfl
def ST.takenN (t : ST) : Nat := sumL (t.all.map fun x => x.2.2.r.taken)
def ST.credL (t : ST) : Nat := t.mine.md + t.takenN
def ST.refuse (t : ST) (room : Int) : Bool := (decide (t.credL < t.limit + max 1 (t.mine.md / 2)) && !t.again) || decide (room < (size16 (dataF t.credL) : Int)) || decide (size16 (dataF t.credL) = 0)
/-- The MaxData that is to be sent. -/
def ST.cred (t : ST) (room : Int) : ST × Fr × Bool := if t.refuse room then (t, zeroF, false) else ({ t with limit := max t.limit t.credL, again := false }, dataF t.credL, true)
theorem RAt.takb {fp : Nat → Prop} {w : World} {r : Nat} {s : RS} (h : RAt w r s fp) : s.taken ≤ 1099511640000 := by
  have hok := h.ok
  obtain ⟨b, fb, h0, hfp⟩ := h
  unfold RS.taken
  split
  · exact hok.fnl
  · have := h0.buf.bd.1
    omega
theorem setRow_belowC {B : Nat} {a w : World} {g : Nat} {cs : Array Value} (h : Below B a w) (hg : B ≤ g) : Below B a (w.setRow g cs) :=
  h.trans ⟨rfl, rfl, rfl, by simp, fun k hk => setRow_other w g k cs (by omega)⟩
/-- The frame's row, beside all that was there. -/
structure CrS (w wx : World) (y z L : Nat) : Prop where
  hy : wx.heap[y]? = some (.cells (encF zeroF).toArray 46 (0, 0))
  hz : wx.heap[z]? = some (.cells (encF (dataF L)).toArray 46 (0, 0))
  ly : w.heap.size ≤ y
  lz : w.heap.size ≤ z
  ne : y ≠ z
  bel : Below w.heap.size w wx
theorem CrS.later {w wx wy : World} {y z L : Nat} (h : CrS w wx y z L) (hb : Below wx.heap.size wx wy) : CrS w wy y z L :=
  ⟨below_keeps hb h.hy (heap_lt h.hy), below_keeps hb h.hz (heap_lt h.hz), h.ly, h.lz, h.ne, below_call h.bel h.bel.size hb⟩
theorem CrS.set {w wx : World} {y z L L' : Nat} (h : CrS w wx y z L) : CrS w (wx.setCell ⟨z, 5, none⟩ (.int .u64 L')) y z L' :=
  ⟨((Upd.refl (fun j => j = z) wx).setCell ⟨z, 5, none⟩ (.inl rfl) _).keeps h.hy h.ne, (set_at h.hz 5 _).trans rfl, h.ly, h.lz, h.ne, h.bel.setCell (p := ⟨z, 5, none⟩) h.lz _⟩
theorem AllM.shape2 {w wr : World} {lab : Nat → Lab} {a b : Nat} {v : Value} {L : List (Bool × Nat × H1)} (h : AllM w wr lab a b v L) : ∃ ov cv og zs, v = .slice ov L.length cv ∧ L.length ≤ cv ∧ Below w.heap.size w wr ∧ SlG encY 73 wr v og zs ∧ (∀ g, og = some g → w.heap.size ≤ g) ∧
    ∀ (j : Nat) (x : Bool × Nat × H1), L[j]? = some x → ∃ g y, ov = some ⟨g, 0, none⟩ ∧ w.heap.size ≤ g ∧ g < wr.heap.size ∧ wr.cell? ⟨g, j, none⟩ = some (.pointer (some ⟨y, 0, none⟩)) ∧ Yat w (if x.1 then a else b) x.2.1 y ∧ StrAt w lab x.1 x.2.1 y x.2.2 := by
  obtain ⟨og, zs, h1, h2, h3, h4⟩ := h.ex
  have h0 := h1
  obtain ⟨ov, cv, rfl, hc1, hc2⟩ := h1.shape
  rw [h2.1] at h1 hc1 h0 ⊢
  refine ⟨ov, cv, og, zs, rfl, hc1, h4, h0, h3, fun j x hx => ?_⟩
  obtain ⟨y, hy, hya, hst⟩ := h2.2 j x.1 x.2.1 x.2.2 hx
  obtain ⟨g, e, rfl, hgl, hg1, _⟩ := h1.el1 (f := fun y : Option Nat => Value.pointer (y.map fun y => ⟨y, 0, none⟩)) (fun _ => rfl) hy
  exact ⟨g, y, rfl, h3 g e, hgl, hg1, hya, hst⟩
theorem CrS.upd {w wx wy : World} {y z L : Nat} (h : CrS w wx y z L) : z < wx.heap.size := heap_lt h.hz
theorem tcells_cred (t : ST) (a b mx : Nat) : ((tcells t a b).setIfInBounds 28 (.int .u64 mx)).setIfInBounds 29 (.bool false) = tcells { t with limit := mx, again := false } a b := by
  unfold tcells
  simp only [List.setIfInBounds_toArray, List.set_cons_zero, List.set_cons_succ]
/-- Behind the credit's turn. -/
structure CredF (w w4 : World) (p : Nat) (t : ST) (lab : Nat → Lab) (a b y z L mx : Nat) : Prop where
  f28 : w4.frozen? ⟨p, 28, none⟩ = false
  f29 : (w4.setCell ⟨p, 28, none⟩ (.int .u64 mx)).frozen? ⟨p, 29, none⟩ = false
  c29 : (w4.setCell ⟨p, 28, none⟩ (.int .u64 mx)).cell? ⟨p, 29, none⟩ = some (.bool t.again)
  hz : (((w4.setCell ⟨p, 28, none⟩ (.int .u64 mx)).setCell ⟨p, 29, none⟩ (.bool false)).drew).heap[z]? = some (.cells (encF (dataF L)).toArray 46 (0, 0))
  hy : (((w4.setCell ⟨p, 28, none⟩ (.int .u64 mx)).setCell ⟨p, 29, none⟩ (.bool false)).drew).heap[y]? = some (.cells (encF zeroF).toArray 46 (0, 0))
  fin : ∀ cs, StAt ((((w4.setCell ⟨p, 28, none⟩ (.int .u64 mx)).setCell ⟨p, 29, none⟩ (.bool false)).drew).setRow y cs) p { t with limit := mx, again := false } lab a b ∧ Upd (fun k => lab k ≠ .out) w ((((w4.setCell ⟨p, 28, none⟩ (.int .u64 mx)).setCell ⟨p, 29, none⟩ (.bool false)).drew).setRow y cs)
theorem cred_facts {w w4 : World} {p : Nat} {t : ST} {lab : Nat → Lab} {a b y z L mx : Nat} (h : StAt w4 p t lab a b) (hc : CrS w w4 y z L) (hy : lab y = .out) (hz : lab z = .out) (hmx : mx < 18446744073709551616) : CredF w w4 p t lab a b y z L mx := by
  have s1 := set_at h.blk 28 (.int .u64 mx)
  have s2 := set_at s1 29 (.bool false)
  have hpy : p ≠ y := fun e => by rw [← e, h.lp] at hy; cases hy
  have hpz : p ≠ z := fun e => by rw [← e, h.lp] at hz; cases hz
  have hu : Upd (fun j => j = p) w4 (((w4.setCell ⟨p, 28, none⟩ (.int .u64 mx)).setCell ⟨p, 29, none⟩ (.bool false)).drew) := (((Upd.refl (fun j => j = p) _).setCell ⟨p, 28, none⟩ (.inl rfl) _).setCell ⟨p, 29, none⟩ (.inl rfl) _).drew
  refine ⟨free_at h.blk 28, free_at s1 29, ?_, hu.keeps hc.hz (fun e => hpz e.symm), hu.keeps hc.hy (fun e => hpy e.symm), fun cs => ?_⟩
  · refine (cell_at s1 29).trans ?_
    rw [Array.getElem?_setIfInBounds_ne (by omega)]
    rfl
  · have hu2 : Upd (fun j => j = p ∨ j = y) w4 ((((w4.setCell ⟨p, 28, none⟩ (.int .u64 mx)).setCell ⟨p, 29, none⟩ (.bool false)).drew).setRow y cs) := (hu.mono (G := fun j => j = p ∨ j = y) (fun k _ q => Or.inl q)).setRowN y (.inl (.inr rfl)) cs
    have hn : ∀ l k, (k = p ∨ k = y) → l ≠ Lab.set → l ≠ Lab.out → lab k ≠ l := fun l k hk h1 h2 e => by
      rcases hk with rfl | rfl
      · rw [h.lp] at e
        exact h1 e.symm
      · rw [hy] at e
        exact h2 e.symm
    refine ⟨⟨?_, h.lp, h.own.keeps hu2 (fun k hk => ⟨hn _ k hk (by simp) (by simp), hn _ k hk (by simp) (by simp), fun i => ⟨hn _ k hk (by simp) (by simp), hn _ k hk (by simp) (by simp), hn _ k hk (by simp) (by simp)⟩⟩),
      h.others.keeps hu2 (fun k hk => ⟨hn _ k hk (by simp) (by simp), hn _ k hk (by simp) (by simp), fun i => ⟨hn _ k hk (by simp) (by simp), hn _ k hk (by simp) (by simp), hn _ k hk (by simp) (by simp)⟩⟩), fun k hk => by have := h.lt k hk; have := hu2.size; omega,
      ⟨h.ok.mine, h.ok.theirs, h.ok.rest, h.ok.own, h.ok.others, h.ok.hown, h.ok.hothers, h.ok.last, hmx, h.ok.allowed⟩⟩, ?_⟩
    · rw [setRow_other _ _ _ _ (fun e => hpy e)]
      exact s2.trans (by rw [tcells_cred])
    · have hw := hc.bel.size
      have hly := hc.ly
      exact ((Upd.below hc.bel).trans hu2 (fun k hk q => by omega) (fun k hk q => by
        rcases q with rfl | rfl
        · show lab k ≠ .out
          rw [h.lp]
          simp
        · omega))
theorem alloc_second (w : World) (o1 o : Obj) : ((w.alloc o1).alloc o).heap[w.heap.size + 1]? = some o := by
  have e := alloc_at (w.alloc o1) o
  rw [show (w.alloc o1).heap.size = w.heap.size + 1 by simp] at e
  exact e
theorem crs_start (w : World) (L : Nat) : CrS w (((w.alloc (.cells (encF zeroF).toArray 46)).alloc (.cells (encF zeroF).toArray 46)).setRow (w.heap.size + 1) (encF (dataF L)).toArray) w.heap.size (w.heap.size + 1) L := by
  refine ⟨?_, setRow_heap _ _ _ _ _ _ (alloc_second w _ _), Nat.le_refl _, by omega, by omega, setRow_belowC (((Below.refl _ _).alloc (Nat.le_refl _) _).alloc (by simp) _) (by omega)⟩
  rw [setRow_other _ _ _ _ (by omega)]
  exact alloc_old (alloc_at w _)
set_option maxRecDepth 100000 in
set_option maxHeartbeats 4000000 in
theorem tcred_any (p : Nat) (t : ST) (lab : Nat → Lab) (a b : Nat) (room : Int) (w : World) (h : StAt w p t lab a b) (hmd : t.mine.md ≤ 2199023255552) (hlm : t.limit ≤ 4398046511104) (hr1 : -9223372036854775808 ≤ room) (hr2 : room ≤ 9223372036854775807) :
    Calls Tryz.prog 23 #[.pointer (some ⟨p, 0, none⟩), .int .i64 room] w fun e w' => e = .returned (.tuple #[.agg (encF (t.cred room).2.1).toArray, .bool (t.cred room).2.2]) ∧
      StAt w' p (t.cred room).1 lab a b ∧ Upd (fun k => lab k ≠ .out) w w' := by
  have H := Lib.hid h
  have hal := t.all_len h.ok
  obtain ⟨I, hI⟩ : ∃ I, t.all.map (fun x => x.2.2.r.taken) = I := ⟨_, rfl⟩
  have HI := Lib.hid hI
  obtain ⟨n, hn⟩ : ∃ n, t.all.length = n := ⟨_, rfl⟩
  have HN := Lib.hid hn
  rw [hn] at hal
  obtain ⟨md, hmde⟩ : ∃ md, t.mine.md = md := ⟨_, rfl⟩
  have HMD := Lib.hid hmde
  rw [hmde] at hmd
  obtain ⟨TT, hTT⟩ : ∃ TT, t.cred room = TT := ⟨_, rfl⟩
  have HTT := Lib.hid hTT
  rw [hTT]
  have p1 : w.cell? ⟨p, 1, none⟩ = some (.int .u64 md) := by rw [← hmde]; exact (h.cell 1).trans rfl
  have hpl := heap_lt h.blk
  clear hI hn hmde hTT h
  go_enter Tryz.func23, Tryz.ntmps23
  go_upto_region 1 with fail
  go_cut [6] (fun v wx => ∃ z, v = .pointer (some ⟨z, 0, none⟩) ∧ CrS w wx w.heap.size z md)
  case first =>
    have hz1 := alloc_second w (.cells (encF zeroF).toArray 46)
    go_wp2_with (refine wpList_store_row rfl 46 (.tmp 6) (.tmp 15) rfl _ _ rfl rfl 46 (encF zeroF).toArray (by exact hz1 _) (by rw [sizeF]; rfl) rfl (by simp [Value.oneCell']) ?_)
    go_meet
    case rel => exact ⟨_, rfl, crs_start w md⟩
  case rest =>
    obtain ⟨z, rfl, hc⟩ := hcut
    generalize wc = w1 at *
    have HC := Lib.hid hc
    clear hc
    have H1 := Lib.hid (H.out.below HC.out.bel)
    obtain ⟨y, hy⟩ : ∃ y, w.heap.size = y := ⟨_, rfl⟩
    have HY := Lib.hid hy
    rw [hy] at HC ⊢
    have HZL := Lib.hid (show z < w1.heap.size from heap_lt HC.out.hz)
    have HZO := Lib.hid (show lab z = .out from by
      cases hq : lab z with
      | out => rfl
      | _ =>
        have := H.out.lt z (by rw [hq]; simp)
        have := HC.out.lz
        omega)
    clear hy p1
    go_wp2_with fail
    refine (tall_any p t lab a b _ (by exact H1.out)).mono ?_
    rintro e w2 ⟨v, rfl, hm⟩
    obtain ⟨ov, cv, _, _, rfl, hc1, hb2, _, _, hel⟩ := hm.shape2
    rw [HN.out] at hc1 ⊢
    have HE := Lib.hid hel
    have HB2 := Lib.hid hb2
    have HC2 := Lib.hid (HC.out.later hb2)
    clear hm hel hb2
    go_wp2_with fail
    go_loopw [19] (fun i wr => ∃ j : Nat, i = .int .i64 j ∧ j ≤ n ∧ sumL (I.take j) ≤ 1099511640000 * j ∧ CrS w wr y z (md + sumL (I.take j)) ∧ Upd (fun k => k = z) w2 wr) (fun i _ => n - (intOf i).toNat)
    case atStart => exact ⟨0, rfl, by omega, Nat.zero_le _, HC2.out, Upd.refl _ _⟩
    case round =>
      obtain ⟨j, rfl, hj, hsb, hcr, hup⟩ := hrel
      have HCR := Lib.hid hcr
      have HUP := Lib.hid hup
      clear hcr hup HC2
      by_cases hlt : j < n
      · obtain ⟨x, hx⟩ : ∃ x, t.all[j]? = some x := ⟨_, List.getElem?_eq_getElem (by rw [HN.out]; exact hlt)⟩
        obtain ⟨g, yj, rfl, hgn, hgl, hgc, _, bs, br, fs, fr, hyb, hyl2, _, _, hr, lfr⟩ := HE.out j x hx
        have hzl := HZL.out
        have g1 := cell_updY HUP.out hgc (by omega) hgl
        have hyl := heap_lt hyb
        have hyz : yj ≠ z := fun e => by rw [e, HZO.out] at hyl2; cases hyl2
        have hyb1 := below_keeps HB2.out hyb hyl
        have hyb2 := HUP.out.keeps hyb1 hyz
        have y2 : wr.cell? ⟨yj, 2, none⟩ = some (.pointer (some ⟨br, 0, none⟩)) := (cell_at hyb2 2).trans rfl
        have hz5 : wr.cell? ⟨z, 5, none⟩ = some (.int .u64 (md + sumL (I.take j) : Nat)) := (cell_at HCR.out.hz 5).trans rfl
        have HR := Lib.hid ((hr.below HB2.out).keeps HUP.out (fun k hk e => by
          have := lfr k hk
          rw [show k = z from e, HZO.out] at this
          cases this))
        have htb := hr.takb
        have hxi : I[j]? = some x.2.2.r.taken := by rw [← HI.out, List.getElem?_map, hx]; rfl
        have HX := Lib.hid (take_snoc' hxi)
        obtain ⟨hi, hhi⟩ : ∃ hi, x.2.2.r.taken = hi := ⟨_, rfl⟩
        have HH := Lib.hid hhi
        rw [hhi] at HX htb
        obtain ⟨zz, hzz⟩ : ∃ zz, md + sumL (I.take j) = zz := ⟨_, rfl⟩
        have HZZ := Lib.hid hzz
        have hzzb : zz ≤ 2199023255552 + 1099511640000 * j := by omega
        rw [hzz] at HCR hz5
        have hnx : md + sumL (I.take (j + 1)) = zz + hi := by rw [HX.out, sumL_snoc]; omega
        have hnb : sumL (I.take (j + 1)) ≤ 1099511640000 * (j + 1) := by rw [HX.out, sumL_snoc]; omega
        have HNX := Lib.hid (And.intro hnx hnb)
        have hw1 : IntKind.u64.wrap ((zz : Int) + hi) = (zz + hi : Nat) := by rw [IntWalk.u64_in _ (by omega)]; omega
        have f5 := free_at HCR.out.hz 5
        have HS0 := Lib.hid (show wr.drew.cell? ⟨yj, 2, none⟩ = some (.pointer (some ⟨br, 0, none⟩)) ∧ wr.drew.cell? ⟨z, 5, none⟩ = some (.int .u64 zz) from ⟨y2, hz5⟩)
        clear hx hyb hyb1 hyb2 hgc hxi hhi hr lfr hyl2 hyz hzz hnx hnb hgn hgl hyl
        go_upto_region 5 with fail
        have HSET := Lib.hid (show ∀ W, Below wr.heap.size wr W → sumL (I.take (j + 1)) ≤ 1099511640000 * (j + 1) ∧ CrS w (W.setCell ⟨z, 5, none⟩ (.int .u64 (zz + hi : Nat))) y z (md + sumL (I.take (j + 1))) ∧ Upd (fun k => k = z) w2 (W.setCell ⟨z, 5, none⟩ (.int .u64 (zz + hi : Nat))) from fun W hW =>
          ⟨HNX.out.2, by rw [HNX.out.1]; exact (HCR.out.later hW).set, (HUP.out.trans (Upd.below hW) (fun _ _ q => q) (fun k hk q => by have := HUP.out.size; omega)).setCell ⟨z, 5, none⟩ (.inl rfl) _⟩)
        refine wp_region_till (S := fun w' => w'.cell? ⟨yj, 2, none⟩ = some (.pointer (some ⟨br, 0, none⟩)) ∧ w'.cell? ⟨z, 5, none⟩ = some (.int .u64 zz)) [9] (by kernel_rfl) (by exact HS0.out) (fun hHeld => ?_)
        refine wpTill_take0 (i := 0) (oi := ⟨some 23, _, _, _, _, _⟩) (v := ?_) rfl (by kernel_rfl) (fun _ _ _ h => h) (Or.inl ⟨by rfl, ?_⟩) (fun _ => hHeld) ?_
        rotate_left
        · intro w hSw
          (try dsimp only at hSw)
          go_simp
          try with_reducible rfl
        try simp only [Act.put, List.setIfInBounds_toArray, List.set_cons_zero, List.set_cons_succ]
        refine wpTill_take (i := 1) (oi := ⟨some 24, _, _, _, _, _⟩) (v := ?_) rfl (by kernel_rfl) (fun _ _ _ h => h) (Or.inl ⟨by rfl, ?_⟩) (by exact hHeld) ?_
        rotate_left
        · intro w hSw
          (try dsimp only at hSw)
          go_simp
          try with_reducible rfl
        try simp only [Act.put, List.setIfInBounds_toArray, List.set_cons_zero, List.set_cons_succ]
        refine wpTill_take0 (i := 2) (oi := ⟨some 25, _, _, _, _, _⟩) (v := ?_) rfl (by kernel_rfl) (fun _ _ _ h => h) (Or.inl ⟨by rfl, ?_⟩) (fun _ => hHeld) ?_
        rotate_left
        · intro w hSw
          (try dsimp only at hSw)
          go_simp
          try with_reducible rfl
        try simp only [Act.put, List.setIfInBounds_toArray, List.set_cons_zero, List.set_cons_succ]
        refine wpTill_take0 (i := 3) (oi := ⟨some 26, _, _, _, _, _⟩) (v := ?_) rfl (by kernel_rfl) (fun _ _ _ h => h) (Or.inl ⟨by rfl, ?_⟩) (fun _ => hHeld) ?_
        rotate_left
        · intro w hSw
          (try dsimp only at hSw)
          go_simp
          try with_reducible rfl
        try simp only [Act.put, List.setIfInBounds_toArray, List.set_cons_zero, List.set_cons_succ]
        refine wpTill_take0 (i := 4) (oi := ⟨some 27, _, _, _, _, _⟩) (v := ?_) rfl (by kernel_rfl) (fun _ _ _ h => h) (Or.inl ⟨by rfl, ?_⟩) (fun _ => hHeld) ?_
        rotate_left
        · intro w hSw
          (try dsimp only at hSw)
          go_simp
          try with_reducible rfl
        try simp only [Act.put, List.setIfInBounds_toArray, List.set_cons_zero, List.set_cons_succ]
        refine wpTill_take (i := 5) (oi := ⟨some 28, _, _, _, _, _⟩) (v := ?_) rfl (by kernel_rfl) (fun _ _ _ h => h) (Or.inl ⟨by rfl, ?_⟩) (by exact hHeld) ?_
        rotate_left
        · intro w hSw
          (try dsimp only at hSw)
          go_simp
          try with_reducible rfl
        try simp only [Act.put, List.setIfInBounds_toArray, List.set_cons_zero, List.set_cons_succ]
        refine wpTill_ready (rs := [6]) (by kernel_rfl) (by simp) ?_
        refine AllTill.cons (o := ⟨some 29, _, _, _, _, _⟩) rfl (fun K hK => ?_) AllTill.nil
        rw [if_pos (show Region.wanted _ _ = true from rfl)]
        go_simp
        go_at_call 43
        refine (rtaken_q br _ fr _ (by exact HR.out.below (by first | exact Below.refl _ _ | exact (Below.refl _ _).drew))).mono ?_
        rw [HH.out]
        rintro e w2 ⟨rfl, q, rfl⟩
        go_simp
        refine hK.out _ _ (by exact HS0.out) (fun hHeld => ?_)
        clear hK K
        try simp only [Act.put, List.setIfInBounds_toArray, List.set_cons_zero, List.set_cons_succ]
        refine wpTill_take0 (i := 7) (oi := ⟨some 30, _, _, _, _, _⟩) (v := ?_) rfl (by kernel_rfl) (fun _ _ _ h => h) (Or.inl ⟨by rfl, ?_⟩) (fun _ => hHeld) ?_
        rotate_left
        · intro w hSw
          (try dsimp only at hSw)
          go_simp
          try with_reducible rfl
        try simp only [Act.put, List.setIfInBounds_toArray, List.set_cons_zero, List.set_cons_succ]
        refine wpTill_take0 (i := 8) (oi := ⟨some 31, _, _, _, _, _⟩) (v := ?_) rfl (by kernel_rfl) (fun _ _ _ h => h) (Or.inl ⟨by rfl, ?_⟩) (fun _ => hHeld) ?_
        rotate_left
        · intro w hSw
          (try dsimp only at hSw)
          go_simp
          try with_reducible rfl
        try simp only [Act.put, List.setIfInBounds_toArray, List.set_cons_zero, List.set_cons_succ]
        refine wpTill_ready (rs := [9]) (by kernel_rfl) (by simp) ?_
        refine AllTill.consD (o := ⟨none, _, _, _, _, _⟩) rfl (by kernel_rfl) (fun K hK => ?_) AllTill.nil
        rw [if_pos (show Region.wanted _ _ = true from rfl)]
        go_simp
        refine hK.out _ _ ?_
        clear hK K
        try simp only [Act.put, List.setIfInBounds_toArray, List.set_cons_zero, List.set_cons_succ]
        refine wpTill_done (by kernel_rfl) ?_ _
        go_wp2_with fail
        go_roundw
        case rel => exact ⟨j + 1, by go_num, by omega, HSET.out _ (by first | exact (Below.refl _ _).drew | exact below_drewN (Below.refl _ _).drew _ | exact below_drewN (Below.refl _ _) _)⟩
        case measure => simp [intOf]; omega
      · obtain rfl : j = n := by omega
        have hLI : I.take j = I := List.take_of_length_le (by rw [← HI.out, List.length_map, HN.out]; exact Nat.le_refl _)
        obtain ⟨L, hL⟩ : ∃ L, md + sumL (I.take j) = L := ⟨_, rfl⟩
        have HCL := Lib.hid (show t.credL = L from by
          unfold ST.credL ST.takenN
          rw [HMD.out, HI.out, ← hLI]
          exact hL)
        have hLb : L ≤ 2300000000000000 := by
          have := Nat.mul_le_mul_left 1099511640000 hal
          omega
        rw [hL] at HCR
        have H3 := Lib.hid ((H1.out.below HB2.out).keeps HUP.out (fun k hk => by rw [show k = z from hk]; exact HZO.out))
        clear hLI hL hsb HE HB2 HUP HC H1
        go_wp2_with (refine wpList_load_row rfl 46 (.tmp 6) rfl z rfl 46 _ (0, 0) _ (by exact HCR.out.hz) Tryz.underlying46 rfl (by rw [sizeF]; rfl) ?_)
        refine (size_16 (dataF L) _ rfl ⟨⟨by show (-9223372036854775808 : Int) ≤ 16; omega, by show (16 : Int) ≤ 9223372036854775807; omega⟩, by show 0 < _; omega, by show 0 < _; omega, by show L < _; omega, by show 0 < _; omega, by show 0 < _; omega⟩ (by show 0 < _; omega) rfl rfl).mono ?_
        rw [size16_int]
        rintro e w3 ⟨rfl, hb3⟩
        have HC3 := Lib.hid (HCR.out.later hb3)
        have HS3 := Lib.hid (H3.out.below hb3)
        clear hb3 HCR H3
        obtain ⟨sz, hsz⟩ : ∃ sz, size16 (dataF L) = sz := ⟨_, rfl⟩
        obtain ⟨lm, hlme⟩ : ∃ lm, t.limit = lm := ⟨_, rfl⟩
        obtain ⟨ag, hag⟩ : ∃ ag, t.again = ag := ⟨_, rfl⟩
        obtain ⟨hf, hhf⟩ : ∃ hf, md / 2 = hf := ⟨_, rfl⟩
        have hhfi : (md : Int).tdiv 2 = (hf : Int) := by rw [Int.tdiv_eq_ediv_of_nonneg (by omega)]; omega
        obtain ⟨m1, hm1⟩ : ∃ m1, max 1 hf = m1 := ⟨_, rfl⟩
        have hm1i : (if (1 : Int) < (hf : Int) then (hf : Int) else 1) = (m1 : Int) := by split <;> omega
        have hfw : IntKind.u64.wrap (hf : Int) = hf := IntWalk.u64_in _ (by omega)
        obtain ⟨th, hth⟩ : ∃ th, lm + m1 = th := ⟨_, rfl⟩
        have htw : IntKind.u64.wrap ((lm : Int) + m1) = (th : Int) := by rw [IntWalk.u64_in _ (by omega)]; omega
        obtain ⟨rf, hrf⟩ : ∃ rf, t.refuse room = rf := ⟨_, rfl⟩
        have HRF := Lib.hid hrf
        have HREF := Lib.hid (show rf = ((decide (L < th) && !ag) || decide (room < (sz : Int)) || decide (sz = 0)) from by
          rw [← hrf]
          unfold ST.refuse
          rw [HCL.out, HMD.out, hhf, hm1, hlme, hag, hsz, hth])
        have q1 : w3.cell? ⟨p, 1, none⟩ = some (.int .u64 md) := by rw [← HMD.out]; exact (HS3.out.cell 1).trans rfl
        have q28 : w3.cell? ⟨p, 28, none⟩ = some (.int .u64 lm) := by rw [← hlme]; exact (HS3.out.cell 28).trans rfl
        have q29 : w3.cell? ⟨p, 29, none⟩ = some (.bool ag) := by rw [← hag]; exact (HS3.out.cell 29).trans rfl
        have qz5 : w3.cell? ⟨z, 5, none⟩ = some (.int .u64 L) := (cell_at HC3.out.hz 5).trans rfl
        have HLE := Lib.hid (And.intro hlme hag)
        rw [hsz]
        rw [hlme] at hlm
        clear hlme hag hhf hsz hm1 hrf hth
        go_upto_region 8 with fail
        go_cut [65] (fun v wx => v = .bool rf ∧ ∃ q, wx = w3.drewN q)
        case first =>
          by_cases hA : L < th ∧ ag = false
          · obtain ⟨hA1, rfl⟩ := hA
            have hAi : (L : Int) < (th : Int) := by omega
            go_quiet (fail)
            go_wp2_with fail
            go_meet
            case rel => exact ⟨congrArg Value.bool (by rw [HREF.out]; simp [hA1]), _, by first | rfl | exact World.drewN_drewN _ _ _⟩
          · by_cases hA1 : L < th
            · obtain rfl : ag = true := by cases ag <;> simp_all
              have hAi : (L : Int) < (th : Int) := by omega
              by_cases hB : room < (sz : Int)
              · go_quiet (fail)
                go_wp2_with fail
                go_meet
                case rel => exact ⟨congrArg Value.bool (by rw [HREF.out]; simp [hB]), _, by first | rfl | exact World.drewN_drewN _ _ _⟩
              · by_cases hC : sz = 0
                · have hCi : ((sz : Int) == 0) = true := by rw [hC]; rfl
                  have HC0 := Lib.hid hC
                  clear hC
                  go_quiet (fail)
                  go_wp2_with fail
                  go_meet
                  case rel => exact ⟨congrArg Value.bool (by rw [HREF.out]; simp [HC0.out]), _, by first | rfl | exact World.drewN_drewN _ _ _⟩
                · have hCi : ((sz : Int) == 0) = false := by
                    rw [beq_eq_false_iff_ne]
                    omega
                  go_quiet (fail)
                  go_wp2_with fail
                  go_meet
                  case rel => exact ⟨congrArg Value.bool (by rw [HREF.out]; simp [hB, hC, hCi]), _, by first | rfl | exact World.drewN_drewN _ _ _⟩
            · have hAi : ¬ (L : Int) < (th : Int) := by omega
              by_cases hB : room < (sz : Int)
              · go_quiet (fail)
                go_wp2_with fail
                go_meet
                case rel => exact ⟨congrArg Value.bool (by rw [HREF.out]; simp [hB]), _, by first | rfl | exact World.drewN_drewN _ _ _⟩
              · by_cases hC : sz = 0
                · have hCi : ((sz : Int) == 0) = true := by rw [hC]; rfl
                  have HC0 := Lib.hid hC
                  clear hC
                  go_quiet (fail)
                  go_wp2_with fail
                  go_meet
                  case rel => exact ⟨congrArg Value.bool (by rw [HREF.out]; simp [HC0.out]), _, by first | rfl | exact World.drewN_drewN _ _ _⟩
                · have hCi : ((sz : Int) == 0) = false := by
                    rw [beq_eq_false_iff_ne]
                    omega
                  go_quiet (fail)
                  go_wp2_with fail
                  go_meet
                  case rel => exact ⟨congrArg Value.bool (by rw [HREF.out]; simp [hA1, hB, hC, hCi]), _, by first | rfl | exact World.drewN_drewN _ _ _⟩
        case rest =>
          obtain ⟨rfl, q, rfl⟩ := hcut
          have HC4 := Lib.hid (HC3.out.later (below_drewN (Below.refl _ _) q))
          have HS4 := Lib.hid (HS3.out.drewN q)
          generalize w3.drewN q = w4 at *
          clear HC3 HS3 q1 q28 q29 qz5 HREF hhfi hm1i hfw htw
          have HYO := Lib.hid (show lab y = .out from by
            cases hq : lab y with
            | out => rfl
            | _ =>
              have := H.out.lt y (by rw [hq]; simp)
              have := HY.out
              omega)
          cases rf
          · obtain ⟨mx, hmx⟩ : ∃ mx, max lm L = mx := ⟨_, rfl⟩
            have hmxi : (if lm < L then (L : Int) else (lm : Int)) = (mx : Int) := by split <;> omega
            have HMX := Lib.hid hmxi
            have hTT : TT = ({ t with limit := mx, again := false }, dataF L, true) := by
              rw [← HTT.out]
              unfold ST.cred
              rw [HRF.out, HCL.out, HLE.out.1, hmx]
              rfl
            obtain ⟨f28, f29, c29, hz2, hy2, hfin⟩ := cred_facts (mx := mx) HS4.out HC4.out HYO.out HZO.out (by omega)
            have HZ2 := Lib.hid hz2
            have HY2 := Lib.hid hy2
            have HFIN := Lib.hid hfin
            have HTE := Lib.hid hTT
            have q28 : w4.cell? ⟨p, 28, none⟩ = some (.int .u64 lm) := by rw [← HLE.out.1]; exact (HS4.out.cell 28).trans rfl
            have qz5 : w4.cell? ⟨z, 5, none⟩ = some (.int .u64 L) := (cell_at HC4.out.hz 5).trans rfl
            have HS10 := Lib.hid (show w4.drew.cell? ⟨p, 28, none⟩ = some (.int .u64 lm) ∧ w4.drew.cell? ⟨z, 5, none⟩ = some (.int .u64 L) from ⟨q28, qz5⟩)
            clear hz2 hy2 hfin hTT hmxi HCL HRF
            go_upto_region 10 with fail
            refine wp_region_till (S := fun w' => w'.cell? ⟨p, 28, none⟩ = some (.int .u64 lm) ∧ w'.cell? ⟨z, 5, none⟩ = some (.int .u64 L)) [11, 14] (by kernel_rfl) (by exact HS10.out) (fun hHeld => ?_)
            refine wpTill_take0 (i := 0) (oi := ⟨some 67, _, _, _, _, _⟩) (v := ?_) rfl (by kernel_rfl) (fun _ _ _ h => h) (Or.inl ⟨by rfl, ?_⟩) (fun _ => hHeld) ?_
            rotate_left
            · intro w hSw
              (try dsimp only at hSw)
              go_simp
              try with_reducible rfl
            try simp only [Act.put, List.setIfInBounds_toArray, List.set_cons_zero, List.set_cons_succ]
            refine wpTill_take0 (i := 1) (oi := ⟨some 68, _, _, _, _, _⟩) (v := ?_) rfl (by kernel_rfl) (fun _ _ _ h => h) (Or.inl ⟨by rfl, ?_⟩) (fun _ => hHeld) ?_
            rotate_left
            · intro w hSw
              (try dsimp only at hSw)
              go_simp
              try with_reducible rfl
            try simp only [Act.put, List.setIfInBounds_toArray, List.set_cons_zero, List.set_cons_succ]
            refine wpTill_take0 (i := 2) (oi := ⟨some 69, _, _, _, _, _⟩) (v := ?_) rfl (by kernel_rfl) (fun _ _ _ h => h) (Or.inl ⟨by rfl, ?_⟩) (fun _ => hHeld) ?_
            rotate_left
            · intro w hSw
              (try dsimp only at hSw)
              go_simp
              try with_reducible rfl
            try simp only [Act.put, List.setIfInBounds_toArray, List.set_cons_zero, List.set_cons_succ]
            refine wpTill_take0 (i := 3) (oi := ⟨some 70, _, _, _, _, _⟩) (v := ?_) rfl (by kernel_rfl) (fun _ _ _ h => h) (Or.inl ⟨by rfl, ?_⟩) (fun _ => hHeld) ?_
            rotate_left
            · intro w hSw
              (try dsimp only at hSw)
              go_simp
              try with_reducible rfl
            try simp only [Act.put, List.setIfInBounds_toArray, List.set_cons_zero, List.set_cons_succ]
            refine wpTill_take0 (i := 4) (oi := ⟨some 71, _, _, _, _, _⟩) (v := ?_) rfl (by kernel_rfl) (fun _ _ _ h => h) (Or.inl ⟨by rfl, ?_⟩) (fun _ => hHeld) ?_
            rotate_left
            · intro w hSw
              (try dsimp only at hSw)
              go_simp
              try with_reducible rfl
            try simp only [Act.put, List.setIfInBounds_toArray, List.set_cons_zero, List.set_cons_succ]
            refine wpTill_take (i := 5) (oi := ⟨some 72, _, _, _, _, _⟩) (v := ?_) rfl (by kernel_rfl) (fun _ _ _ h => h) (Or.inl ⟨by rfl, ?_⟩) (by exact hHeld) ?_
            rotate_left
            · intro w hSw
              (try dsimp only at hSw)
              go_simp
              try with_reducible rfl
            try simp only [Act.put, List.setIfInBounds_toArray, List.set_cons_zero, List.set_cons_succ]
            refine wpTill_take0 (i := 6) (oi := ⟨some 73, _, _, _, _, _⟩) (v := ?_) rfl (by kernel_rfl) (fun _ _ _ h => h) (Or.inl ⟨by rfl, ?_⟩) (fun _ => hHeld) ?_
            rotate_left
            · intro w hSw
              (try dsimp only at hSw)
              go_simp
              try with_reducible rfl
            try simp only [Act.put, List.setIfInBounds_toArray, List.set_cons_zero, List.set_cons_succ]
            refine wpTill_take (i := 7) (oi := ⟨some 74, _, _, _, _, _⟩) (v := ?_) rfl (by kernel_rfl) (fun _ _ _ h => h) (Or.inl ⟨by rfl, ?_⟩) (by exact hHeld) ?_
            rotate_left
            · intro w hSw
              (try dsimp only at hSw)
              go_simp
              try with_reducible rfl
            try simp only [Act.put, List.setIfInBounds_toArray, List.set_cons_zero, List.set_cons_succ]
            refine wpTill_take0 (i := 8) (oi := ⟨some 75, _, _, _, _, _⟩) (v := .int .u64 mx) rfl (by kernel_rfl) (fun _ _ _ h => h) (Or.inl ⟨by rfl, ?_⟩) (fun _ => hHeld) ?_
            · intro w hSw
              go_simp
              rw [HMX.out]
            try simp only [Act.put, List.setIfInBounds_toArray, List.set_cons_zero, List.set_cons_succ]
            refine wpTill_take0 (i := 9) (oi := ⟨some 76, _, _, _, _, _⟩) (v := ?_) rfl (by kernel_rfl) (fun _ _ _ h => h) (Or.inl ⟨by rfl, ?_⟩) (fun _ => hHeld) ?_
            rotate_left
            · intro w hSw
              (try dsimp only at hSw)
              go_simp
              try with_reducible rfl
            try simp only [Act.put, List.setIfInBounds_toArray, List.set_cons_zero, List.set_cons_succ]
            refine wpTill_take0 (i := 10) (oi := ⟨some 77, _, _, _, _, _⟩) (v := ?_) rfl (by kernel_rfl) (fun _ _ _ h => h) (Or.inl ⟨by rfl, ?_⟩) (fun _ => hHeld) ?_
            rotate_left
            · intro w hSw
              (try dsimp only at hSw)
              go_simp
              try with_reducible rfl
            try simp only [Act.put, List.setIfInBounds_toArray, List.set_cons_zero, List.set_cons_succ]
            refine wpTill_ready (rs := [11]) (by kernel_rfl) (by simp) ?_
            refine AllTill.consD (o := ⟨none, _, _, _, _, _⟩) rfl (by kernel_rfl) (fun K hK => ?_) AllTill.nil
            rw [if_pos (show Region.wanted _ _ = true from rfl)]
            go_simp
            refine hK.out _ _ ?_
            clear hK K
            try simp only [Act.put, List.setIfInBounds_toArray, List.set_cons_zero, List.set_cons_succ]
            generalize w4.setCell ⟨p, 28, none⟩ (.int .u64 mx) = w5 at *
            refine wpTill_take0 (i := 12) (oi := ⟨some 78, _, _, _, _, _⟩) (v := ?_) rfl (by kernel_rfl) (fun _ _ _ h => h) (Or.inl ⟨by rfl, ?_⟩) (fun h => Bool.noConfusion (h.symm.trans (show _ = true by kernel_rfl))) ?_
            rotate_left
            · intro w hSw
              (try dsimp only at hSw)
              go_simp
              try with_reducible rfl
            try simp only [Act.put, List.setIfInBounds_toArray, List.set_cons_zero, List.set_cons_succ]
            refine wpTill_take0 (i := 13) (oi := ⟨some 79, _, _, _, _, _⟩) (v := ?_) rfl (by kernel_rfl) (fun _ _ _ h => h) (Or.inl ⟨by rfl, ?_⟩) (fun h => Bool.noConfusion (h.symm.trans (show _ = true by kernel_rfl))) ?_
            rotate_left
            · intro w hSw
              (try dsimp only at hSw)
              go_simp
              try with_reducible rfl
            try simp only [Act.put, List.setIfInBounds_toArray, List.set_cons_zero, List.set_cons_succ]
            refine wpTill_ready (rs := [14]) (by kernel_rfl) (by simp) ?_
            refine AllTill.consD (o := ⟨none, _, _, _, _, _⟩) rfl (by kernel_rfl) (fun K hK => ?_) AllTill.nil
            rw [if_pos (show Region.wanted _ _ = true from rfl)]
            go_simp
            refine hK.out _ _ ?_
            clear hK K
            try simp only [Act.put, List.setIfInBounds_toArray, List.set_cons_zero, List.set_cons_succ]
            refine wpTill_done (by kernel_rfl) ?_ _
            go_wp2_with (first
              | refine wpList_load_row rfl 46 (.tmp 6) rfl z rfl 46 _ (0, 0) _ (by exact HZ2.out) Tryz.underlying46 rfl (by rw [sizeF]; rfl) ?_
              | refine wpList_store_row rfl 46 (.tmp 4) (.tmp 80) rfl _ _ rfl rfl 46 (encF zeroF).toArray (by exact HY2.out) (by rw [sizeF]; rfl) rfl (by simp [Value.oneCell', encF, dataF]) ?_)
            (try simp only [Exit.inBlock, Exit.then])
            refine bodyPost_ret (results_row_tmp rfl _ _ y 46 (encF (dataF L)).toArray (0, 0) _ rfl (setRow_heap _ y _ _ _ _ HY2.out) Tryz.underlying46 rfl (by rw [sizeF]; rfl)) rfl ?_
            rw [HTE.out]
            exact ⟨rfl, HFIN.out _⟩
          · have hTT : TT = (t, zeroF, false) := by
              rw [← HTT.out]
              unfold ST.cred
              rw [HRF.out]
              rfl
            subst hTT
            have HFIN := Lib.hid (show StAt (w4.setRow y (encF zeroF).toArray) p t lab a b ∧ Upd (fun k => lab k ≠ .out) w (w4.setRow y (encF zeroF).toArray) from
              ⟨HS4.out.keeps ((Upd.refl (fun j => j = y) w4).setRowN y (.inl rfl) _) (fun k hk => by rw [show k = y from hk]; exact HYO.out),
                (Upd.below (setRow_belowC HC4.out.bel HC4.out.ly)).mono (fun k hk q => by omega)⟩)
            have HYR := Lib.hid HC4.out.hy
            clear HC4 HS4
            go_wp2_with (refine wpList_store_row rfl 46 (.tmp 4) (.tmp 66) rfl _ _ rfl rfl 46 (encF zeroF).toArray (by exact HYR.out) (by rw [sizeF]; rfl) rfl (by simp [Value.oneCell']) ?_)
            (try simp only [Exit.inBlock, Exit.then])
            refine bodyPost_ret (results_row_tmp rfl _ _ y 46 (encF zeroF).toArray (0, 0) _ rfl (setRow_heap _ y _ _ _ _ HYR.out) Tryz.underlying46 rfl (by rw [sizeF]; rfl)) rfl ?_
            exact ⟨rfl, HFIN.out⟩
end Go.Proofs.YtnneoeimgbemfaaGreat

/- DERIVED. streams: Sent. -/
namespace Go.Proofs.YtnneoeimgbemfaaGreat
open Go.RowKit

def ST.sentN (t : ST) : Nat := sumL (t.all.map fun x => x.2.2.s.os.sent)
theorem SdAt.sentb {fp : Nat → Prop} {w : World} {r : Nat} {s : SS} (h : SdAt w r s fp) : s.os.sent ≤ 1099511640000 := by
  have h1 := h.oOk.sent
  have h2 := h.oOk.len
  omega
set_option maxRecDepth 100000 in
set_option maxHeartbeats 2000000 in
theorem tsent_any (p : Nat) (t : ST) (lab : Nat → Lab) (a b : Nat) (w : World) (h : StAt w p t lab a b) :
    Calls Tryz.prog 14 #[.pointer (some ⟨p, 0, none⟩)] w fun e w' => e = .returned (.int .u64 t.sentN) ∧ t.sentN ≤ 2199023280000000 ∧ Below w.heap.size w w' := by
  have H := Lib.hid h
  have hal := t.all_len h.ok
  obtain ⟨L, hL⟩ : ∃ L, t.all = L := ⟨_, rfl⟩
  have HL := Lib.hid hL
  unfold ST.sentN
  rw [hL] at hal ⊢
  obtain ⟨I, hI⟩ : ∃ I, L.map (fun x => x.2.2.s.os.sent) = I := ⟨_, rfl⟩
  have HI := Lib.hid hI
  rw [hI]
  obtain ⟨n, hn⟩ : ∃ n, L.length = n := ⟨_, rfl⟩
  have HN := Lib.hid hn
  rw [hn] at hal
  clear h hL hn hI
  go_enter Tryz.func14, Tryz.ntmps14
  go_wp2_with fail
  refine (tall_any p t lab a b _ (by exact H.out)).mono ?_
  rw [HL.out]
  rintro e w1 ⟨v, rfl, hm⟩
  obtain ⟨ov, cv, rfl, hc1, hb1, hel⟩ := hm.shape
  rw [HN.out] at hc1 ⊢
  have HE := Lib.hid hel
  have HB1 := Lib.hid hb1
  clear hm hel hb1
  go_wp2_with fail
  go_loopw [3, 9] (fun v i wr => ∃ j z : Nat, i = .int .i64 j ∧ v = .int .u64 z ∧ j ≤ n ∧ z = sumL (I.take j) ∧ z ≤ 1099511640000 * j ∧ Below w1.heap.size w1 wr) (fun _ i _ => n - (intOf i).toNat)
  case atStart => exact ⟨0, 0, rfl, rfl, by omega, rfl, by omega, Below.refl _ _⟩
  case round =>
    obtain ⟨j, z, rfl, rfl, hj, hz, hzb, hb⟩ := hrel
    have HG := Lib.hid (And.intro hz hb)
    clear hz hb
    by_cases hlt : j < n
    · obtain ⟨x, hx⟩ : ∃ x, L[j]? = some x := ⟨_, List.getElem?_eq_getElem (by rw [HN.out]; exact hlt)⟩
      obtain ⟨g, y, rfl, hgl, hgc, _, bs, br, fs, fr, hyb, _, hs, _⟩ := HE.out j x hx
      have g1 := cell_keep HG.out.2 hgl hgc
      have hyb1 := below_keeps HB1.out hyb (heap_lt hyb)
      have hyb2 := below_keeps HG.out.2 hyb1 (heap_lt hyb1)
      have y1 : wr.cell? ⟨y, 1, none⟩ = some (.pointer (some ⟨bs, 0, none⟩)) := (cell_at hyb2 1).trans rfl
      have hs1 := hs.below HB1.out
      have HS := Lib.hid (hs1.below (by
        have := heap_lt hyb1
        exact HG.out.2))
      have hhb := hs.sentb
      have hxi : I[j]? = some x.2.2.s.os.sent := by rw [← HI.out, List.getElem?_map, hx]; rfl
      have HX := Lib.hid (take_snoc' hxi)
      obtain ⟨hi, hhi⟩ : ∃ hi, x.2.2.s.os.sent = hi := ⟨_, rfl⟩
      have HH := Lib.hid hhi
      rw [hhi] at HX hhb
      clear hx hyb hyb1 hyb2 hgc hxi hhi hs hs1
      have hw1 : IntKind.u64.wrap ((z : Int) + hi) = (z + hi : Nat) := by rw [IntWalk.u64_in _ (by omega)]; omega
      go_wp2_with fail
      refine (ssent_q bs _ fs _ (by exact HS.out)).mono ?_
      rw [HH.out]
      rintro e w2 ⟨rfl, q, rfl⟩
      have HN1 := Lib.hid (show z + hi = sumL (I.take (j + 1)) ∧ z + hi ≤ 1099511640000 * (j + 1) ∧ Below w1.heap.size w1 (wr.drewN q) from ⟨by rw [HX.out, sumL_snoc, ← HG.out.1], by omega, below_drewN HG.out.2 q⟩)
      go_wp2_with fail
      go_roundw
      case rel => exact ⟨j + 1, z + hi, by go_num, by go_num, by omega, HN1.out⟩
      case measure => simp [intOf]; omega
    · obtain rfl : j = n := by omega
      have HF := Lib.hid (show z = sumL I from by
        have := HG.out.1
        rw [List.take_of_length_le (by rw [← HI.out, List.length_map, HN.out]; exact Nat.le_refl _)] at this
        exact this)
      go_wp2_with fail
      go_ret
      refine ⟨by rw [← HF.out]; rfl, by rw [← HF.out]; omega, below_call HB1.out HB1.out.size HG.out.2⟩
end Go.Proofs.YtnneoeimgbemfaaGreat

/- DERIVED. Plain: rows of ranges: what is in them, how many. -/
namespace Go.Proofs.YtnneoeimgbemfaaGreat
open Go.RowKit

theorem memR_of {xs : List Rg} {r : Rg} (h : r ∈ xs) {j : Nat} (h1 : r.1 ≤ j) (h2 : j < r.2) : mem xs j = true := by
  unfold mem
  rw [List.any_eq_true]
  exact ⟨r, h, by simp [hasP, h1, h2]⟩
theorem len_from : ∀ (xs : List Rg) (a m : Nat), Norm xs → (∀ r ∈ xs, a ≤ r.1) → (∀ r ∈ xs, r.2 ≤ m) → xs.length ≤ m - a
  | [], _, _, _, _, _ => by simp
  | r :: xs, a, m, hn, h1, h2 => by
    obtain ⟨⟨h3, h4⟩, h5⟩ := hn.head
    have ha := h1 r (List.mem_cons_self ..)
    have hm := h2 r (List.mem_cons_self ..)
    have := len_from xs r.2 m hn.tail (fun x hx => by have := h5 x hx; omega) (fun x hx => h2 x (List.mem_cons_of_mem _ hx))
    rw [List.length_cons]
    omega
theorem mem_top {xs : List Rg} {m : Nat} (hn : Norm xs) (h : ∀ j, mem xs j = true → j < m) : ∀ r ∈ xs, r.2 ≤ m := by
  intro r hr
  have h1 := hn.1 r hr
  have := h (r.2 - 1) (memR_of hr (by omega) (by omega))
  omega
theorem len_mem {xs : List Rg} {m : Nat} (hn : Norm xs) (h : ∀ j, mem xs j = true → j < m) : xs.length ≤ m := by
  have := len_from xs 0 m hn (fun _ _ => Nat.zero_le _) (mem_top hn h)
  omega
theorem at_facts {xs : List Rg} {n : Nat} (hn : Norm xs) : atOf xs n ≤ n ∧ (∀ k, k < atOf xs n → mem xs k = true) ∧ (atOf xs n < n → mem xs (atOf xs n) = false) := by
  obtain ⟨i1, i2, i3, i4⟩ := gapF_facts n xs 0 hn
  obtain ⟨_, _, j3⟩ := gapF_is n xs 0 hn
  unfold atOf gapL
  by_cases h : (gapF xs 0 n).2 ≤ (gapF xs 0 n).1
  · rw [if_pos h]
    have h2 := j3.1 h
    refine ⟨Nat.le_refl _, fun k hk => ?_, fun hk => absurd hk (Nat.lt_irrefl _)⟩
    have hk : k < n := hk
    exact i3 k (Nat.zero_le _) (by omega)
  · rw [if_neg h]
    have h' : (gapF xs 0 n).1 < (gapF xs 0 n).2 := by omega
    refine ⟨?_, fun k hk => i3 k (Nat.zero_le _) hk, fun _ => i4 _ (Nat.le_refl _) h'⟩
    show (gapF xs 0 n).1 ≤ n
    omega
theorem at_mono {xs zs : List Rg} {n : Nat} (hx : Norm xs) (hz : Norm zs) (h : ∀ k, mem xs k = true → mem zs k = true) : atOf xs n ≤ atOf zs n := by
  obtain ⟨a1, a2, a3⟩ := at_facts (n := n) hx
  obtain ⟨b1, b2, b3⟩ := at_facts (n := n) hz
  rcases Nat.lt_or_ge (atOf zs n) (atOf xs n) with h1 | h1
  · have h2 := h _ (a2 _ h1)
    have h3 := b3 (by omega)
    rw [h2] at h3
    cases h3
  · exact h1
theorem at_all {xs : List Rg} {n : Nat} (hx : Norm xs) (h : ∀ k, k < n → mem xs k = true) : atOf xs n = n := by
  obtain ⟨a1, a2, a3⟩ := at_facts (n := n) hx
  rcases Nat.lt_or_ge (atOf xs n) n with h1 | h1
  · have h2 := h _ h1
    rw [a3 h1] at h2
    cases h2
  · omega
set_option maxRecDepth 100000 in
theorem addL_facts {xs : List Rg} {f t : Nat} (hn : Norm xs) (hft : f < t) (ht : t ≤ 1000000) (hl : xs.length ≤ 90000) :
    Norm (addL many xs f t) ∧ (addL many xs f t).length ≤ xs.length + 1 ∧ ∀ j, mem (addL many xs f t) j = (mem xs j || decide (f ≤ j ∧ j < t)) := by
  have e : addL many xs f t = addN xs (f, t) := by
    unfold addL
    rw [addRaw_is hft xs hn]
    exact trim_all (by have := addN_len xs (f, t); unfold many; omega)
  rw [e]
  refine ⟨addN_norm xs _ hft (by omega) hn, addN_len xs _, fun j => ?_⟩
  show (addN xs (f, t)).any (hasP j) = _
  rw [any_addN j xs _ hft hn, Bool.or_comm]
  have e2 : hasP j (f, t) = decide (f ≤ j ∧ j < t) := by simp [hasP]
  rw [e2]
  rfl
theorem cutRaw_facts {xs : List Rg} {f t : Nat} (hn : Norm xs) (hft : f ≤ t) : ∀ j, mem (cutRaw f t xs) j = (mem xs j && !decide (f ≤ j ∧ j < t)) := by
  intro j
  rcases Nat.lt_or_ge f t with h | h
  · show (cutRaw f t xs).any (hasP j) = _
    rw [any_cut j f t h xs hn]
    simp [hasP, mem]
  · rw [cut_none h]
    have : ¬ (f ≤ j ∧ j < t) := by omega
    simp [this]
/-- What becomes of what is lost, number by number. -/
theorem lostY_facts {s : OS} {y0 : List Rg} (hx : Norm s.xs) (hy : Norm y0) : ∀ k, k ≤ s.xs.length → Norm (lostY s y0 k) ∧ ∀ j, mem (lostY s y0 k) j = (mem y0 j && !mem (s.xs.take k) j) := by
  intro k
  induction k with
  | zero => intro _; exact ⟨hy, fun j => by simp [lostY, mem]⟩
  | succ k ih =>
    intro hk
    obtain ⟨h1, h2⟩ := ih (by omega)
    obtain ⟨r, hr⟩ : ∃ r, s.xs[k]? = some r := ⟨_, List.getElem?_eq_getElem (by omega)⟩
    have hrb := hx.1 r (List.mem_of_getElem? hr)
    rw [lostY_succ hr]
    refine ⟨cut_norm _ _ _ h1, fun j => ?_⟩
    rw [cutRaw_facts h1 (by omega), h2]
    have e : mem (s.xs.take (k + 1)) j = (mem (s.xs.take k) j || hasP j r) := take_any hr
    rw [e]
    have e2 : hasP j r = decide (r.1 ≤ j ∧ j < r.2) := by simp [hasP]
    rw [e2]
    cases mem y0 j <;> cases mem (s.xs.take k) j <;> simp

theorem bool_not {b : Bool} (h : ¬ b = true) : b = false := by cases b <;> simp_all
end Go.Proofs.YtnneoeimgbemfaaGreat

/- DERIVED. Walk of outbuf's Next, where no piece goes: nothing, or the end alone. -/
namespace Go.Proofs.YtnneoeimgbemfaaGreat
open Go.RowKit

theorem slen_n (b : Nat) (og : Option Nat) (xs : List Rg) (w : World) (h : SetAt w b many og xs) (n : Nat) (hn : xs.length = n) : Calls Tryz.prog 63 #[.pointer (some ⟨b, 0, none⟩)] w fun e w' => e = .returned (.int .i64 n) ∧ ∃ n, w' = w.drewN n := by
  rw [← hn]
  exact slen_q b many og xs w h
set_option maxRecDepth 100000 in
set_option maxHeartbeats 2000000 in
theorem onext_none (b : Nat) (s : OS) (fp : Nat → Prop) (most : Int) (limit f t0 : Nat) (w : World) (h : OAt w b s fp) (hlim : limit < 18446744073709551616) (hpt : s.part limit = (f, t0)) (hft : f ≤ t0) (ht : min t0 (f + most.toNat) = f) (ht0 : t0 ≤ 1099511627776) (hno : s.ys = [] → s.sent = s.B.length → s.ende = false) (hm1 : -9223372036854775808 ≤ most) (hm : most ≤ 9223372036854775807) :
    Calls Tryz.prog 45 #[.pointer (some ⟨b, 0, none⟩), .int .i64 most, .int .u64 limit] w
      fun e w' => e = .returned (.tuple #[.int .u64 0, .slice none 0 0, .bool false, .bool false]) ∧ Below w.heap.size w w' := by
  have H := Lib.hid h
  have HPT := Lib.hid hpt
  have HNO := Lib.hid hno
  obtain ⟨mo, hmo⟩ : ∃ mo, most.toNat = mo := ⟨_, rfl⟩
  rw [hmo] at ht
  have hmb : mo ≤ 9223372036854775807 := by omega
  have hmm : max 0 most = (mo : Int) := by omega
  clear h hpt hno
  go_enter Tryz.func45, Tryz.ntmps45
  go_wp2_with fail
  refine (opart_any b s fp limit _ (by exact H.out) hlim HPT.out).mono ?_
  rintro e w1 ⟨rfl, hb⟩
  have HB := Lib.hid hb
  clear hb
  go_upto_region 2 with fail
  go_cut [11] (fun v wx => v = .int .u64 f ∧ wx = w1)
  case first =>
    have hwm : IntKind.u64.wrap (mo : Int) = mo := IntWalk.u64_in _ (by omega)
    obtain ⟨z, hz, hzt⟩ : ∃ z : Nat, (f : Int) + (mo : Int) = (z : Int) ∧ f + mo = z := ⟨f + mo, by omega, rfl⟩
    have hzb : (z : Int) < 18446744073709551616 := by omega
    have hwz : IntKind.u64.wrap (z : Int) = z := IntWalk.u64_in _ (by omega)
    rw [hzt] at ht
    rcases (by omega : (z < t0 ∧ f = z) ∨ (t0 < z ∧ f = t0) ∨ (t0 = z ∧ f = t0)) with ⟨q1, q3⟩ | ⟨q1, q3⟩ | ⟨q1, q3⟩
    all_goals rcases (by omega : (most < 0 ∧ mo = 0) ∨ (most = 0 ∧ mo = 0) ∨ (0 < most ∧ most = (mo : Int))) with ⟨p1, p2⟩ | ⟨p1, p2⟩ | ⟨p1, p2⟩
    all_goals clear ht
    all_goals first | omega | skip
    all_goals try subst p1
    all_goals try subst p2
    all_goals try subst q3
    all_goals try subst q1
    all_goals try clear hmo hmm hmb hm hm1
    all_goals go_wp2_with fail
    all_goals go_meet
    all_goals (case rel => exact ⟨by first | rfl | (congr 1; congr 1; omega), rfl⟩)
  case rest =>
    obtain ⟨rfl, rfl⟩ := hcut
    generalize wc = w1 at *
    have H1 := Lib.hid (H.out.below HB.out)
    obtain ⟨vb, ob, c, oc, d, od, hO, hfp⟩ := H1.out
    obtain ⟨e1, e2, e3, e6, e7, e8, e9⟩ := H1.out.cells
    have c5 : w1.cell? ⟨b, 5, none⟩ = some (.pointer (some ⟨d, 0, none⟩)) := (cell_at hO.blk 5).trans rfl
    have HO := Lib.hid hO
    have HSL := Lib.hid (show ∀ W, Below w1.heap.size w1 W → W.cell? ⟨b, 5, none⟩ = some (.pointer (some ⟨d, 0, none⟩)) ∧ W.cell? ⟨b, 2, none⟩ = some (.int .u64 s.B.length) ∧ W.cell? ⟨b, 3, none⟩ = some (.int .u64 s.sent) from fun W h => by
      have hk := below_keeps h hO.blk (heap_lt hO.blk)
      exact ⟨(cell_at hk 5).trans rfl, (cell_at hk 2).trans rfl, (cell_at hk 3).trans rfl⟩)
    have hlen := hO.ok.len
    have hsl := hO.ok.sent
    have hyl := hO.ok.ly
    have HNO' := Lib.hid (show s.ys.length = 0 → ¬ s.sent < s.B.length → s.ende = false from fun h1 h2 => HNO.out (by simpa using h1) (by omega))
    obtain ⟨n, hn⟩ : ∃ n, s.ys.length = n := ⟨_, rfl⟩
    have HN := Lib.hid hn
    rw [hn] at hyl HNO'
    generalize hse : s.sent = sent at *
    generalize hle : s.B.length = len at *
    generalize hee : s.ende = en at *
    have HE := Lib.hid hee
    clear hO hfp HNO hse hle hn hee hmm hmo
    have hffi : ((f : Int) == (f : Int)) = true := by simp
    rcases (by omega : (0 < n) ∨ (n = 0 ∧ sent < len) ∨ (n = 0 ∧ ¬ sent < len)) with q1 | ⟨q1, q2⟩ | ⟨q1, q2⟩
    · have q1i : (0 : Int) < (n : Int) := by omega
      go_wp2_with fail
      go_quiet ((go_at_call 63; exact Calls.quiet_of (slen_n d od _ _ (by exact HO.out.sy.below (below_drewN (Below.refl _ _) _)) n HN.out)))
      go_wp2_with fail
      (try simp only [Exit.inBlock, Exit.then])
      refine bodyPost_ret (results_tmp4 rfl _ _ _) rfl ?_
      exact ⟨rfl, below_drewN HB.out _⟩
    · subst q1
      have q2i : (sent : Int) < (len : Int) := by omega
      go_wp2_with fail
      go_quiet ((go_at_call 63; exact Calls.quiet_of (slen_n d od _ _ (by exact HO.out.sy.below (below_drewN (Below.refl _ _) _)) 0 HN.out)))
      go_wp2_with fail
      (try simp only [Exit.inBlock, Exit.then])
      refine bodyPost_ret (results_tmp4 rfl _ _ _) rfl ?_
      exact ⟨rfl, below_drewN HB.out _⟩
    · subst q1
      have q2i : ¬ (sent : Int) < (len : Int) := by omega
      have hen : en = false := HNO'.out rfl q2
      subst hen
      go_wp2_with fail
      go_quiet (first | (go_at_call 63; exact Calls.quiet_of (slen_n d od _ _ (by exact HO.out.sy.below (below_drewN (Below.refl _ _) _)) 0 HN.out)) | (go_at_call 64; exact Calls.quiet_of (oend_e b s _ _ (by exact H1.out.drewN _) HE.out)))
      go_wp2_with fail
      (try simp only [Exit.inBlock, Exit.then])
      refine bodyPost_ret (results_tmp4 rfl _ _ _) rfl ?_
      exact ⟨rfl, below_drewN HB.out _⟩
set_option maxRecDepth 100000 in
set_option maxHeartbeats 2000000 in
theorem onext_end (b : Nat) (s : OS) (fp : Nat → Prop) (most : Int) (limit : Nat) (w : World) (h : OAt w b s fp) (hlim : limit < 18446744073709551616) (hy : s.ys = []) (hsl0 : s.sent = s.B.length) (hen : s.ende = true) (hm1 : -9223372036854775808 ≤ most) (hm : most ≤ 9223372036854775807) :
    Calls Tryz.prog 45 #[.pointer (some ⟨b, 0, none⟩), .int .i64 most, .int .u64 limit] w
      fun e w' => e = .returned (.tuple #[.int .u64 s.B.length, .slice none 0 0, .bool true, .bool true]) ∧ OM w w' fp b { s with es := true, el := false } := by
  have H := Lib.hid h
  obtain ⟨f, hf⟩ : ∃ f, s.sent = f := ⟨_, rfl⟩
  obtain ⟨t0, hpt, ht1⟩ : ∃ t0, s.part limit = (f, t0) ∧ t0 = f := ⟨f, by unfold OS.part; rw [hy]; show (s.sent, _) = _; rw [hf, show max f (min limit s.B.length) = f by omega], rfl⟩
  have ht0 : t0 ≤ 1099511627776 := by have := h.ok.len; omega
  have ht : min t0 (f + most.toNat) = f := by omega
  have HPT := Lib.hid hpt
  have HY := Lib.hid hy
  have HSL0 := Lib.hid (show s.B.length = f by omega)
  have HSF := Lib.hid hf
  have HEN := Lib.hid hen
  obtain ⟨mo, hmo⟩ : ∃ mo, most.toNat = mo := ⟨_, rfl⟩
  rw [hmo] at ht
  have hmb : mo ≤ 9223372036854775807 := by omega
  have hmm : max 0 most = (mo : Int) := by omega
  rw [← hsl0, hf]
  clear h hpt hy hen hf hsl0
  go_enter Tryz.func45, Tryz.ntmps45
  go_wp2_with fail
  refine (opart_any b s fp limit _ (by exact H.out) hlim HPT.out).mono ?_
  rintro e w1 ⟨rfl, hb⟩
  have HB := Lib.hid hb
  clear hb
  go_upto_region 2 with fail
  go_cut [11] (fun v wx => v = .int .u64 f ∧ wx = w1)
  case first =>
    have hwm : IntKind.u64.wrap (mo : Int) = mo := IntWalk.u64_in _ (by omega)
    obtain ⟨z, hz, hzt⟩ : ∃ z : Nat, (f : Int) + (mo : Int) = (z : Int) ∧ f + mo = z := ⟨f + mo, by omega, rfl⟩
    have hzb : (z : Int) < 18446744073709551616 := by omega
    have hwz : IntKind.u64.wrap (z : Int) = z := IntWalk.u64_in _ (by omega)
    rw [hzt] at ht
    rcases (by omega : (z < t0 ∧ f = z) ∨ (t0 < z ∧ f = t0) ∨ (t0 = z ∧ f = t0)) with ⟨q1, q3⟩ | ⟨q1, q3⟩ | ⟨q1, q3⟩
    all_goals rcases (by omega : (most < 0 ∧ mo = 0) ∨ (most = 0 ∧ mo = 0) ∨ (0 < most ∧ most = (mo : Int))) with ⟨p1, p2⟩ | ⟨p1, p2⟩ | ⟨p1, p2⟩
    all_goals clear ht
    all_goals first | omega | skip
    all_goals try subst p1
    all_goals try subst p2
    all_goals try subst q3
    all_goals try subst q1
    all_goals try clear hmo hmm hmb hm hm1
    all_goals go_wp2_with fail
    all_goals go_meet
    all_goals (case rel => exact ⟨by first | rfl | (congr 1; congr 1; omega), rfl⟩)
  case rest =>
    obtain ⟨rfl, rfl⟩ := hcut
    generalize wc = w1 at *
    have H1 := Lib.hid (H.out.below HB.out)
    obtain ⟨vb, ob, c, oc, d, od, hO, hfp⟩ := H1.out
    obtain ⟨e1, e2, e3, e6, e7, e8, e9⟩ := H1.out.cells
    have c5 : w1.cell? ⟨b, 5, none⟩ = some (.pointer (some ⟨d, 0, none⟩)) := (cell_at hO.blk 5).trans rfl
    have HO := Lib.hid hO
    rw [HSL0.out] at e2
    rw [HSF.out] at e3
    have HWf := Lib.hid (show Went fp (OFp b c d ob oc od) w w1 from by
      rw [← hfp]
      exact Went.first HB.out (Went.refl fp w1))
    clear hO hfp hmm hmo
    have hffi : ((f : Int) == (f : Int)) = true := by simp
    have hff : ¬ (f : Int) < (f : Int) := by omega
    go_wp2_with fail
    go_quiet (first | (go_at_call 63; exact Calls.quiet_of (slen_n d od _ _ (by exact HO.out.sy.below (below_drewN (Below.refl _ _) _)) 0 (by rw [HY.out]; rfl))) | (go_at_call 64; exact Calls.quiet_of (oend_e b s _ _ (by exact H1.out.drewN _) HEN.out)))
    generalize hW5 : World.drewN w1 _ = w5
    have HM5 := Lib.hid (show OM w w5 fp b s from by rw [← hW5]; exact OM.drewN ⟨_, ⟨vb, ob, c, oc, d, od, HO.out, rfl⟩, HWf.out⟩ _)
    clear HO HWf e1 e2 e3 e6 e7 e8 e9 c5 H1 HB H HPT
    clear hW5
    obtain ⟨fp5, hoa5, hw5⟩ := HM5.out
    obtain ⟨vb5, ob5, c5', oc5, d5, od5, hO5, hfp5⟩ := hoa5
    rw [hfp5] at hw5
    have e2 : w5.cell? ⟨b, 2, none⟩ = some (.int .u64 f) := by rw [cell_at hO5.blk, ← HSL0.out]; rfl
    have f7 := free_at hO5.blk 7
    have f9 := free_at hO5.blk 9
    have e7 := cell_at hO5.blk 7
    have e9 := cell_at hO5.blk 9
    have e79 := cell_at (set_at hO5.blk 7 (.bool true)) 9
    have e72 : (w5.setCell ⟨b, 7, none⟩ (.bool true)).cell? ⟨b, 2, none⟩ = some (.int .u64 f) := by rw [cell_at (set_at hO5.blk 7 (.bool true)), ← HSL0.out]; rfl
    simp only [List.getElem?_toArray, List.getElem?_cons_succ, List.getElem?_cons_zero, Array.setIfInBounds] at e7 e9 e79
    have f79 := free_at (set_at hO5.blk 7 (.bool true)) 9
    have HMY := Lib.hid (show OM w ((w5.setCell ⟨b, 7, none⟩ (.bool true)).setCell ⟨b, 9, none⟩ (.bool false)) fp b { s with es := true, el := false } from om_set hO5 hw5 (Upd.refl _ _) (((Upd.refl (fun j => j = b) w5).setCell ⟨b, 7, none⟩ (.inl rfl) _).setCell ⟨b, 9, none⟩ (.inl rfl) _) (set_at (set_at hO5.blk 7 _) 9 _) hO5.row (.inl rfl) rfl rfl
            ⟨hO5.ok.len, hO5.ok.base, hO5.ok.sent, hO5.ok.nx, hO5.ok.ny, hO5.ok.lx, hO5.ok.ly, hO5.ok.bys⟩)
    have e2x : ((w5.setCell ⟨b, 7, none⟩ (.bool true)).setCell ⟨b, 9, none⟩ (.bool false)).cell? ⟨b, 2, none⟩ = some (.int .u64 f) := by rw [cell_at (set_at (set_at hO5.blk 7 (.bool true)) 9 (.bool false)), ← HSL0.out]; rfl
    clear hO5 hw5 hfp5 HM5
    go_wp2_with fail
    (try simp only [Exit.inBlock, Exit.then])
    refine bodyPost_ret (results_tmp4 rfl _ _ _) rfl ?_
    have hm9 := HMY.out
    rw [HSF.out] at hm9
    exact ⟨rfl, hm9⟩
end Go.Proofs.YtnneoeimgbemfaaGreat
