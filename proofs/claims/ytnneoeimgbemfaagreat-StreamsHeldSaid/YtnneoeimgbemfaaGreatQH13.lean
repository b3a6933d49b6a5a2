/- DERIVED. streams: open (printed by mkstopen.py). -/
import Derived.Test.YtnneoeimgbemfaaGreatQH3
import Derived.Test.YtnneoeimgbemfaaGreatQH11
set_option linter.all false
namespace Go.Proofs.YtnneoeimgbemfaaGreat
open Go.RowKit

theorem SdMine.first {W0 W w : World} {r : Nat} {s : SS} (hb : Below W0.heap.size W0 W) (h : SdMine W w r s) : SdMine W0 w r s := by
  obtain ⟨fp, h1, h2, h3⟩ := h
  exact ⟨fp, h1, fun k hk => Nat.le_trans hb.size (h2 k hk), below_call hb hb.size h3⟩
theorem RMine.first {W0 W w : World} {r : Nat} {s : RS} (hb : Below W0.heap.size W0 W) (h : RMine W w r s) : RMine W0 w r s := by
  obtain ⟨fp, h1, h2, h3⟩ := h
  exact ⟨fp, h1, fun k hk => Nat.le_trans hb.size (h2 k hk), below_call hb hb.size h3⟩
theorem NS.first {W0 W w : World} {bs br : Nat} {s : SS} {r : RS} (h : NS W w bs br s r) (hb : Below W0.heap.size W0 W) : NS W0 w bs br s r := by
  obtain ⟨fs, fr, h1, h2, h3, h4, h5, h6⟩ := h
  have := hb.size
  exact ⟨fs, fr, h1, h2, fun k hk => by have := h3 k hk; omega, fun k hk => by have := h4 k hk; omega, h5, below_call hb hb.size h6⟩
theorem NS.below {W w : World} {bs br : Nat} {s : SS} {r : RS} (h : NS W w bs br s r) : Below W.heap.size W w := by
  obtain ⟨fs, fr, h1, h2, h3, h4, h5, h6⟩ := h
  exact h6
theorem NY.below {W w : World} {y id : Nat} {s : SS} {r : RS} (h : NY W w y id s r) : Below W.heap.size W w := by
  obtain ⟨_, _, _, _, _, _, _, _, _, _, _, _, _, h⟩ := h
  exact h
theorem NY.first {W0 W w : World} {y id : Nat} {s : SS} {r : RS} (h : NY W w y id s r) (hb : Below W0.heap.size W0 W) : NY W0 w y id s r := by
  obtain ⟨bs, br, fs, fr, h1, h2, h3, h4, h5, h6, h7, h8, h9, h10⟩ := h
  have := hb.size
  exact ⟨bs, br, fs, fr, h1, by omega, h3, h4, fun k hk => by have := h5 k hk; omega, fun k hk => by have := h6 k hk; omega, h7, h8, h9, below_call hb hb.size h10⟩
def ST.rs (t : ST) (o : Bool) : Nat := if o then t.rest else 1 - t.rest
def ST.nid (t : ST) (o : Bool) : Nat := 4 * (t.hs o).length + t.rs o
def ST.newH (t : ST) (o : Bool) : H1 := ⟨t.nid o, { SS.new (t.nid o) with lim := max 0 t.theirs.msd }, RS.new (t.nid o) t.mine.msd⟩
set_option maxRecDepth 100000 in
set_option maxHeartbeats 4000000 in
theorem topen_any (p : Nat) (t : ST) (lab : Nat → Lab) (a b : Nat) (w : World) (h : StAt w p t lab a b) (o : Bool) (hlen : (t.hs o).length < 1000) (x : Nat) (hx : (if o then a else b) = x) :
    Calls Tryz.prog 20 #[.pointer (some ⟨p, 0, none⟩), .pointer (some ⟨x, 0, none⟩)] w fun e w' => ∃ y lab', e = .returned (.pointer (some ⟨y, 0, none⟩)) ∧ StAt w' p (t.add o (t.newH o)) lab' a b ∧
      StrAt w' lab' o (t.hs o).length y (t.newH o) ∧ Went (fun k => lab k ≠ .out) (fun k => lab' k ≠ .out) w w' := by
  obtain ⟨i0, hi0, hz0, hz1, hz2'⟩ := info_parts infoY
  have H := Lib.hid h
  have hs := h.sde o
  rw [hx] at hs
  obtain ⟨v, og, ys, h1, h2, h3, h4, h5, h6⟩ := hs
  obtain ⟨ov, cv, rfl, hc1, hc2⟩ := h3.shape
  have HS := Lib.hid (And.intro h1 (And.intro h2 (And.intro h3 (And.intro h4 (And.intro h5 h6)))))
  have hrest := h.ok.rest
  have hpl := heap_lt h.blk
  have hxl := heap_lt h1
  obtain ⟨n, hn⟩ : ∃ n, (t.hs o).length = n := ⟨_, rfl⟩
  obtain ⟨rs, hrs, hrs2⟩ : ∃ rs, (if o then t.rest else 1 - t.rest) = rs ∧ rs ≤ 1 := ⟨_, rfl, by split <;> omega⟩
  obtain ⟨msd, hms, hmsd⟩ : ∃ msd, t.mine.msd = msd ∧ msd < 18446744073709551616 := ⟨_, rfl, h.ok.mine.msd⟩
  obtain ⟨tmsd, htms, htm⟩ : ∃ msd, t.theirs.msd = msd ∧ msd < 18446744073709551616 := ⟨_, rfl, h.ok.theirs.msd⟩
  obtain ⟨id, hide, hid⟩ : ∃ id, 4 * n + rs = id ∧ id < 18446744073709551616 := ⟨_, rfl, by omega⟩
  have x0 : w.cell? ⟨x, 0, none⟩ = some (.int .u64 rs) := by rw [← hrs]; exact (cell_at h1 0).trans rfl
  have x1 : w.cell? ⟨x, 1, none⟩ = some (.slice ov n cv) := by rw [← hn, ← h5]; exact (cell_at h1 1).trans rfl
  have p2 : w.cell? ⟨p, 2, none⟩ = some (.int .u64 msd) := by rw [← hms]; exact (h.cell 2).trans rfl
  have p14 : w.cell? ⟨p, 14, none⟩ = some (.int .u64 tmsd) := by rw [← htms]; exact (h.cell 14).trans rfl
  have HNW := Lib.hid (show t.newH o = ⟨id, { SS.new id with lim := max 0 tmsd }, RS.new id msd⟩ from by
    unfold ST.newH ST.nid ST.rs
    rw [hn, hrs, hide, hms, htms])
  have HN := Lib.hid (And.intro hn (And.intro hrs hide))
  rw [hn] at hlen
  rw [HNW.out]
  clear h h1 h2 h3 h4 h5 h6 hn hrs hrest hms htms
  have hwn : IntKind.u64.wrap (n : Int) = n := IntWalk.u64_in _ (by omega)
  have hw4 : IntKind.u64.wrap (4 * (n : Int)) = (4 * n : Nat) := by rw [IntWalk.u64_in _ (by omega)]; omega
  have hwi : IntKind.u64.wrap (((4 * n : Nat) : Int) + rs) = id := by rw [IntWalk.u64_in _ (by omega)]; omega
  have hwi2 : 4 * (n : Int) + (rs : Int) = (id : Int) := by omega
  go_enter Tryz.func20, Tryz.ntmps20
  go_upto_region 1 with fail
  go_cut [5] (fun v wx => v = .int .u64 id ∧ ∃ m, wx = w.drewN m)
  case first =>
    go_quiet (fail)
    go_wp2_with fail
    go_meet
    case rel => exact ⟨rfl, _, rfl⟩
  case rest =>
    obtain ⟨rfl, m1, rfl⟩ := hcut
    have HB1 := Lib.hid (below_drewN (Below.refl w.heap.size w) m1)
    have q2 : (w.drewN m1).cell? ⟨p, 2, none⟩ = some (.int .u64 msd) := p2
    have HSof := Lib.hid (fun (W : World) (hB : Below (w.drewN m1).heap.size (w.drewN m1) W) => show W.cell? ⟨p, 2, none⟩ = some (.int .u64 msd) from cell_keep hB hpl q2)
    generalize w.drewN m1 = w1 at *
    clear hwn hw4 hwi hwi2
    go_upto_region 2 with fail
    go_cut [6] (fun v wx => ∃ y, v = .pointer (some ⟨y, 0, none⟩) ∧ NY w1 wx y id (SS.new id) (RS.new id msd))
    case first =>
      refine wp_region_till (S := fun w' => w'.cell? ⟨p, 2, none⟩ = some (.int .u64 msd)) [] (by kernel_rfl) (by exact HSof.out _ ((Below.refl _ _).drew)) (fun hHeld => ?_)
      refine wpTill_take0 (i := 0) (oi := ⟨some 19, _, _, _, _, _⟩) (v := ?_) rfl (by kernel_rfl) (fun _ _ _ h => h) (Or.inl ⟨by rfl, ?_⟩) (fun _ => hHeld) ?_
      rotate_left
      · intro w hSw
        (try dsimp only at hSw)
        go_simp
        try with_reducible rfl
      try simp only [Act.put, List.setIfInBounds_toArray, List.set_cons_zero, List.set_cons_succ]
      refine wpTill_take0 (i := 1) (oi := ⟨some 20, _, _, _, _, _⟩) (v := ?_) rfl (by kernel_rfl) (fun _ _ _ h => h) (Or.inl ⟨by rfl, ?_⟩) (fun _ => hHeld) ?_
      rotate_left
      · intro w hSw
        (try dsimp only at hSw)
        go_simp
        try with_reducible rfl
      try simp only [Act.put, List.setIfInBounds_toArray, List.set_cons_zero, List.set_cons_succ]
      refine wpTill_take0 (i := 3) (oi := ⟨some 22, _, _, _, _, _⟩) (v := ?_) rfl (by kernel_rfl) (fun _ _ _ h => h) (Or.inl ⟨by rfl, ?_⟩) (fun _ => hHeld) ?_
      rotate_left
      · intro w hSw
        (try dsimp only at hSw)
        go_simp
        try with_reducible rfl
      try simp only [Act.put, List.setIfInBounds_toArray, List.set_cons_zero, List.set_cons_succ]
      refine wpTill_take0 (i := 4) (oi := ⟨some 23, _, _, _, _, _⟩) (v := ?_) rfl (by kernel_rfl) (fun _ _ _ h => h) (Or.inl ⟨by rfl, ?_⟩) (fun _ => hHeld) ?_
      rotate_left
      · intro w hSw
        (try dsimp only at hSw)
        go_simp
        try with_reducible rfl
      try simp only [Act.put, List.setIfInBounds_toArray, List.set_cons_zero, List.set_cons_succ]
      refine wpTill_take0 (i := 5) (oi := ⟨some 24, _, _, _, _, _⟩) (v := ?_) rfl (by kernel_rfl) (fun _ _ _ h => h) (Or.inl ⟨by rfl, ?_⟩) (fun _ => hHeld) ?_
      rotate_left
      · intro w hSw
        (try dsimp only at hSw)
        go_simp
        try with_reducible rfl
      try simp only [Act.put, List.setIfInBounds_toArray, List.set_cons_zero, List.set_cons_succ]
      refine wpTill_take0 (i := 6) (oi := ⟨some 25, _, _, _, _, _⟩) (v := ?_) rfl (by kernel_rfl) (fun _ _ _ h => h) (Or.inl ⟨by rfl, ?_⟩) (fun _ => hHeld) ?_
      rotate_left
      · intro w hSw
        (try dsimp only at hSw)
        go_simp
        try with_reducible rfl
      try simp only [Act.put, List.setIfInBounds_toArray, List.set_cons_zero, List.set_cons_succ]
      refine wpTill_take0 (i := 7) (oi := ⟨some 26, _, _, _, _, _⟩) (v := ?_) rfl (by kernel_rfl) (fun _ _ _ h => h) (Or.inl ⟨by rfl, ?_⟩) (fun _ => hHeld) ?_
      rotate_left
      · intro w hSw
        (try dsimp only at hSw)
        go_simp
        try with_reducible rfl
      try simp only [Act.put, List.setIfInBounds_toArray, List.set_cons_zero, List.set_cons_succ]
      refine wpTill_take (i := 8) (oi := ⟨some 27, _, _, _, _, _⟩) (v := ?_) rfl (by kernel_rfl) (fun _ _ _ h => h) (Or.inl ⟨by rfl, ?_⟩) (by exact hHeld) ?_
      rotate_left
      · intro w hSw
        (try dsimp only at hSw)
        go_simp
        try with_reducible rfl
      try simp only [Act.put, List.setIfInBounds_toArray, List.set_cons_zero, List.set_cons_succ]
      refine wpTill_ready (rs := [2]) (by kernel_rfl) (by simp) ?_
      refine AllTill.cons (o := ⟨some 21, _, _, _, _, _⟩) rfl (fun K hK => ?_) AllTill.nil
      go_simp
      go_at_call 37
      refine (sdnew_any id _ hid).mono ?_
      rintro e w4 ⟨bs, rfl, hm4⟩
      have HSN := Lib.hid hm4
      have HB4 := Lib.hid (below_call ((by first | exact Below.refl _ _ | exact (Below.refl _ _).drew | exact below_drewN (Below.refl _ _) _) : Below w1.heap.size w1 _) (by first | exact Nat.le_refl _ | simp) hm4.below)
      clear hm4
      go_wp2_with fail
      refine hK.out _ _ (by exact HSof.out _ HB4.out) (fun hHeld => ?_)
      clear hK K
      try simp only [Act.put, List.setIfInBounds_toArray, List.set_cons_zero, List.set_cons_succ]
      refine wpTill_ready (rs := [9]) (by kernel_rfl) (by simp) ?_
      refine AllTill.cons (o := ⟨some 28, _, _, _, _, _⟩) rfl (fun K hK => ?_) AllTill.nil
      go_simp
      go_at_call 38
      refine (rnew_any id msd _ hid hmsd).mono ?_
      rintro e w5 ⟨br, rfl, hm5⟩
      have HNS := Lib.hid ((NS.sr HSN.out hm5).first (by first | exact (Below.refl _ _).drew | exact below_drewN (Below.refl _ _) _))
      clear hm5
      go_wp2_with fail
      refine hK.out _ _ (by exact HSof.out _ HNS.out.below) (fun hHeld => ?_)
      clear hK K
      try simp only [Act.put, List.setIfInBounds_toArray, List.set_cons_zero, List.set_cons_succ]
      refine wpTill_take0 (i := 10) (oi := ⟨some 29, _, _, _, _, _⟩) (v := ?_) rfl (by kernel_rfl) (fun _ _ _ h => h) (Or.inl ⟨by rfl, ?_⟩) (fun _ => hHeld) ?_
      rotate_left
      · intro w hSw
        (try dsimp only at hSw)
        go_simp
        try with_reducible rfl
      try simp only [Act.put, List.setIfInBounds_toArray, List.set_cons_zero, List.set_cons_succ]
      refine wpTill_ready (rs := [11]) (by kernel_rfl) (by simp) ?_
      refine AllTill.cons (o := ⟨some 30, _, _, _, _, _⟩) rfl (fun K hK => ?_) AllTill.nil
      go_simp
      have HNY := Lib.hid (HNS.out.box ((Below.refl _ _).alloc (Nat.le_refl _) (.cells #[.int .u64 id, .pointer (some ⟨bs, 0, none⟩), .pointer (some ⟨br, 0, none⟩)] 72)) (Nat.le_refl _) (alloc_at _ _))
      refine hK.out _ _ (by exact HSof.out _ HNY.out.below) (fun hHeld => ?_)
      clear hK K
      try simp only [Act.put, List.setIfInBounds_toArray, List.set_cons_zero, List.set_cons_succ]
      refine wpTill_take0 (i := 12) (oi := ⟨some 6, _, _, _, _, _⟩) (v := ?_) rfl (by kernel_rfl) (fun _ _ _ h => h) (Or.inl ⟨by rfl, ?_⟩) (fun _ => hHeld) ?_
      rotate_left
      · intro w hSw
        (try dsimp only at hSw)
        go_simp
        try with_reducible rfl
      try simp only [Act.put, List.setIfInBounds_toArray, List.set_cons_zero, List.set_cons_succ]
      refine wpTill_done (by kernel_rfl) ?_ _
      go_wp2_with fail
      go_meet
      case rel => exact ⟨_, rfl, HNY.out⟩
    case rest =>
      obtain ⟨y, rfl, hny⟩ := hcut
      have HNY := Lib.hid hny
      generalize wc = w3 at *
      obtain ⟨bs, br, fs, fr, k1, k2, k3, k4, k5, k6, k7, k8, k9, k10⟩ := HNY.out
      have HSD := Lib.hid k3
      have hyl := heap_lt k1
      have HBW3 := Lib.hid (below_call HB1.out HB1.out.size k10)
      have HYL := Lib.hid (fun (W w5 : World) (hB : Below w3.heap.size w3 W) (hm : SdM W w5 fs bs { SS.new id with lim := max (SS.new id).lim tmsd }) => show NY w w5 y id { SS.new id with lim := max 0 tmsd } (RS.new id msd) from by
        have hkk : Below w1.heap.size w1 W := below_call k10 k10.size hB
        exact (NY.turn (below_keeps hB k1 hyl) k2 (k4.below hB) k5 k6 k7 k8 k9 hkk hm).first HB1.out)
      have y1 : w3.cell? ⟨y, 1, none⟩ = some (.pointer (some ⟨bs, 0, none⟩)) := (cell_at k1 1).trans rfl
      have p14' := cell_keep HBW3.out hpl p14
      have HS3 := Lib.hid (show w3.drew.cell? ⟨y, 1, none⟩ = some (.pointer (some ⟨bs, 0, none⟩)) ∧ w3.drew.cell? ⟨p, 14, none⟩ = some (.int .u64 tmsd) from ⟨y1, p14'⟩)
      have HSL := Lib.hid (fun (W w5 : World) (hB : Below w3.heap.size w3 W) (hm : SdM W w5 fs bs { SS.new id with lim := max (SS.new id).lim tmsd }) => show w5.cell? ⟨y, 1, none⟩ = some (.pointer (some ⟨bs, 0, none⟩)) ∧ w5.cell? ⟨p, 14, none⟩ = some (.int .u64 tmsd) from by
        obtain ⟨fp', m1, m2⟩ := hm
        exact ⟨(cell_at (m2.upd.keeps (below_keeps hB k1 hyl) k8) 1).trans rfl, cell_keep (HYL.out W w5 hB ⟨fp', m1, m2⟩).below hpl p14⟩)
      clear k1 k2 k3 k4 k5 k6 k7 k8 k9 k10
      go_upto_region 3 with fail
      go_cut [34] (fun v wx => v = .pointer (some ⟨bs, 0, none⟩) ∧ NY w wx y id { SS.new id with lim := max 0 tmsd } (RS.new id msd))
      case first =>
        refine wp_region_till (S := fun w' => w'.cell? ⟨y, 1, none⟩ = some (.pointer (some ⟨bs, 0, none⟩)) ∧ w'.cell? ⟨p, 14, none⟩ = some (.int .u64 tmsd)) [] (by kernel_rfl) (by exact HS3.out) (fun hHeld => ?_)
        refine wpTill_take0 (i := 0) (oi := ⟨some 31, _, _, _, _, _⟩) (v := ?_) rfl (by kernel_rfl) (fun _ _ _ h => h) (Or.inl ⟨by rfl, ?_⟩) (fun _ => hHeld) ?_
        rotate_left
        · intro w hSw
          (try dsimp only at hSw)
          go_simp
          try with_reducible rfl
        try simp only [Act.put, List.setIfInBounds_toArray, List.set_cons_zero, List.set_cons_succ]
        refine wpTill_take0 (i := 1) (oi := ⟨some 32, _, _, _, _, _⟩) (v := ?_) rfl (by kernel_rfl) (fun _ _ _ h => h) (Or.inl ⟨by rfl, ?_⟩) (fun _ => hHeld) ?_
        rotate_left
        · intro w hSw
          (try dsimp only at hSw)
          go_simp
          try with_reducible rfl
        try simp only [Act.put, List.setIfInBounds_toArray, List.set_cons_zero, List.set_cons_succ]
        refine wpTill_take0 (i := 2) (oi := ⟨some 33, _, _, _, _, _⟩) (v := ?_) rfl (by kernel_rfl) (fun _ _ _ h => h) (Or.inl ⟨by rfl, ?_⟩) (fun _ => hHeld) ?_
        rotate_left
        · intro w hSw
          (try dsimp only at hSw)
          go_simp
          try with_reducible rfl
        try simp only [Act.put, List.setIfInBounds_toArray, List.set_cons_zero, List.set_cons_succ]
        refine wpTill_take (i := 3) (oi := ⟨some 34, _, _, _, _, _⟩) (v := ?_) rfl (by kernel_rfl) (fun _ _ _ h => h) (Or.inl ⟨by rfl, ?_⟩) (by exact hHeld) ?_
        rotate_left
        · intro w hSw
          (try dsimp only at hSw)
          go_simp
          try with_reducible rfl
        try simp only [Act.put, List.setIfInBounds_toArray, List.set_cons_zero, List.set_cons_succ]
        refine wpTill_take0 (i := 4) (oi := ⟨some 35, _, _, _, _, _⟩) (v := ?_) rfl (by kernel_rfl) (fun _ _ _ h => h) (Or.inl ⟨by rfl, ?_⟩) (fun _ => hHeld) ?_
        rotate_left
        · intro w hSw
          (try dsimp only at hSw)
          go_simp
          try with_reducible rfl
        try simp only [Act.put, List.setIfInBounds_toArray, List.set_cons_zero, List.set_cons_succ]
        refine wpTill_take0 (i := 5) (oi := ⟨some 36, _, _, _, _, _⟩) (v := ?_) rfl (by kernel_rfl) (fun _ _ _ h => h) (Or.inl ⟨by rfl, ?_⟩) (fun _ => hHeld) ?_
        rotate_left
        · intro w hSw
          (try dsimp only at hSw)
          go_simp
          try with_reducible rfl
        try simp only [Act.put, List.setIfInBounds_toArray, List.set_cons_zero, List.set_cons_succ]
        refine wpTill_take0 (i := 6) (oi := ⟨some 37, _, _, _, _, _⟩) (v := ?_) rfl (by kernel_rfl) (fun _ _ _ h => h) (Or.inl ⟨by rfl, ?_⟩) (fun _ => hHeld) ?_
        rotate_left
        · intro w hSw
          (try dsimp only at hSw)
          go_simp
          try with_reducible rfl
        try simp only [Act.put, List.setIfInBounds_toArray, List.set_cons_zero, List.set_cons_succ]
        refine wpTill_take0 (i := 7) (oi := ⟨some 38, _, _, _, _, _⟩) (v := ?_) rfl (by kernel_rfl) (fun _ _ _ h => h) (Or.inl ⟨by rfl, ?_⟩) (fun _ => hHeld) ?_
        rotate_left
        · intro w hSw
          (try dsimp only at hSw)
          go_simp
          try with_reducible rfl
        try simp only [Act.put, List.setIfInBounds_toArray, List.set_cons_zero, List.set_cons_succ]
        refine wpTill_take (i := 8) (oi := ⟨some 39, _, _, _, _, _⟩) (v := ?_) rfl (by kernel_rfl) (fun _ _ _ h => h) (Or.inl ⟨by rfl, ?_⟩) (by exact hHeld) ?_
        rotate_left
        · intro w hSw
          (try dsimp only at hSw)
          go_simp
          try with_reducible rfl
        try simp only [Act.put, List.setIfInBounds_toArray, List.set_cons_zero, List.set_cons_succ]
        refine wpTill_ready (rs := [9]) (by kernel_rfl) (by simp) ?_
        refine AllTill.cons (o := ⟨some 40, _, _, _, _, _⟩) rfl (fun K hK => ?_) AllTill.nil
        go_simp
        go_at_call 29
        refine (slimit_any bs _ fs tmsd _ (by exact HSD.out.below (by first | exact Below.refl _ _ | exact (Below.refl _ _).drew | exact below_drewN (Below.refl _ _) _)) htm).mono ?_
        rintro e w5 ⟨rfl, hm⟩
        have HL5 := Lib.hid (HYL.out _ w5 (by first | exact Below.refl _ _ | exact (Below.refl _ _).drew | exact below_drewN (Below.refl _ _) _) hm)
        have HS5 := Lib.hid (HSL.out _ w5 (by first | exact Below.refl _ _ | exact (Below.refl _ _).drew | exact below_drewN (Below.refl _ _) _) hm)
        clear hm
        go_wp2_with fail
        refine hK.out _ _ (by exact HS5.out) (fun hHeld => ?_)
        clear hK K
        try simp only [Act.put, List.setIfInBounds_toArray, List.set_cons_zero, List.set_cons_succ]
        refine wpTill_done (by kernel_rfl) ?_ _
        go_wp2_with fail
        go_meet
        case rel => exact ⟨rfl, HL5.out⟩
      case rest =>
        obtain ⟨rfl, hny⟩ := hcut
        generalize wc = w6 at *
        have hb6 := hny.below
        have r1 := cell_keep hb6 hxl x1
        have HNA := Lib.hid (hny.later ((Below.refl w6.heap.size w6).alloc (Nat.le_refl _) (.cells #[.pointer (some ⟨y, 0, none⟩)] 73)))
        have hrw6 := HS.out.2.2.1.below hb6
        rw [HS.out.2.2.2.2.1, HN.out.1] at hrw6
        have HRW := Lib.hid hrw6
        have HX6 := Lib.hid (below_keeps hb6 HS.out.1 hxl)
        have HYS := Lib.hid (show ys.length = n from by rw [HS.out.2.2.2.2.1, HN.out.1])
        clear hny HNY HSD HYL HSL y1 p14' HS3 HSof q2 p2 p14 x0 hrw6
        go_wp2_with (refine wpList_pushN encY_len encY_one Tryz.underlying63 hi0 hz1 hz0 zeroY rfl (.tmp 45) (.tmp 47) rfl (by exact HRW.out.alloc _) [some y] (by exact Src.block (alloc_at _ _) rfl) rfl rfl rfl (by simp) (by have := HYS.out; rw [hz2']; simp; omega) (by have := HYS.out; simp; omega) ?_)
        intro W7 v7 og7 hs7 ho7 hu7
        have hogx : og ≠ some x := fun q => by
          have := HS.out.2.2.2.1 x q
          rw [HS.out.2.1] at this
          cases this
        have hx7 := hu7.keeps (below_keeps ((Below.refl w6.heap.size w6).alloc (Nat.le_refl _) (.cells #[.pointer (some ⟨y, 0, none⟩)] 73)) HX6.out (heap_lt HX6.out)) hogx
        have f7 := free_at hx7 1
        have c7 := (cell_at hx7 1).trans (by rfl : _ = some (Value.slice ov ys.length cv))
        have HF := Lib.hid (H.out.push o hx HNA.out (by rw [HN.out.1, HN.out.2.1, HN.out.2.2]) rfl rfl (by rw [HN.out.1]; exact hlen) HS.out.1 HS.out.2.1 HS.out.2.2.1 HS.out.2.2.2.1 HS.out.2.2.2.2.1 HS.out.2.2.2.2.2 hs7 (ho7.imp (fun q => q) (fun ⟨g, q1, q2⟩ => ⟨g, q1, by simpa using q2⟩)) hu7)
        obtain ⟨ov7, cv7, rfl, _, _⟩ := hs7.shape
        generalize (ys ++ [some y]).length = n7 at *
        clear hs7 ho7 hu7 hx7 hogx
        go_wp2_with fail
        go_ret
        obtain ⟨lab', g1, g2, g3⟩ := HF.out
        exact ⟨y, lab', rfl, g1, g2, g3⟩
end Go.Proofs.YtnneoeimgbemfaaGreat

/- DERIVED. streams: Open. -/
namespace Go.Proofs.YtnneoeimgbemfaaGreat
open Go.RowKit

def ST.opnV (t : ST) : Nat × Nat := if t.theirs.ms ≤ t.own.length then (0, 31) else (t.nid true, 0)
def ST.opn (t : ST) : ST := if t.theirs.ms ≤ t.own.length then t else t.add true (t.newH true)
set_option maxRecDepth 100000 in
set_option maxHeartbeats 2000000 in
theorem tOpen_any (p : Nat) (t : ST) (lab : Nat → Lab) (a b : Nat) (w : World) (h : StAt w p t lab a b) (hlen : t.own.length < 1000) :
    Calls Tryz.prog 5 #[.pointer (some ⟨p, 0, none⟩)] w fun e w' => e = .returned (.tuple #[.int .u64 t.opnV.1, .int .i64 t.opnV.2]) ∧ ∃ lab', StAt w' p t.opn lab' a b ∧ Went (fun k => lab k ≠ .out) (fun k => lab' k ≠ .out) w w' := by
  have H := Lib.hid h
  have c24 : w.cell? ⟨p, 24, none⟩ = some (.pointer (some ⟨a, 0, none⟩)) := (h.cell 24).trans rfl
  have c15 : w.cell? ⟨p, 15, none⟩ = some (.int .u64 t.theirs.ms) := (h.cell 15).trans rfl
  obtain ⟨ov, cv, _, a1, hc, _, _⟩ := side_elt h.own
  have hms := h.ok.theirs.ms
  unfold ST.opnV ST.opn
  obtain ⟨ms, hmse⟩ : ∃ ms, t.theirs.ms = ms := ⟨_, rfl⟩
  obtain ⟨n, hn⟩ : ∃ n, t.own.length = n := ⟨_, rfl⟩
  have HN := Lib.hid hn
  rw [hmse] at c15 hms ⊢
  rw [hn] at a1 hc hlen ⊢
  obtain ⟨nid, hnid⟩ : ∃ nid, t.nid true = nid := ⟨_, rfl⟩
  have HNID := Lib.hid hnid
  rw [hnid]
  clear h hmse hn hnid
  have hwn : IntKind.u64.wrap (n : Int) = n := IntWalk.u64_in _ (by omega)
  by_cases hle : ms ≤ n
  · rw [if_pos hle, if_pos hle]
    have hnl : ¬ (n : Int) < (ms : Int) := by omega
    go_enter Tryz.func5, Tryz.ntmps5
    go_upto_region 1 with fail
    go_cut [18] (fun v wx => v = .bool true ∧ ∃ m, wx = w.drewN m)
    case first =>
      go_quiet (fail)
      go_wp2_with fail
      go_meet
      case rel => exact ⟨rfl, _, rfl⟩
    case rest =>
      obtain ⟨rfl, m, rfl⟩ := hcut
      have HF := Lib.hid (show ∃ lab', StAt (w.drewN m) p t lab' a b ∧ Went (fun k => lab k ≠ .out) (fun k => lab' k ≠ .out) w (w.drewN m) from ⟨lab, H.out.drewN m, (Went.refl _ _).drewN m⟩)
      go_wp2_with fail
      go_ret2
      exact ⟨rfl, HF.out⟩
  · rw [if_neg hle, if_neg hle]
    have hnl : (n : Int) < (ms : Int) := by omega
    go_enter Tryz.func5, Tryz.ntmps5
    go_upto_region 1 with fail
    go_cut [18] (fun v wx => v = .bool false ∧ ∃ m, wx = w.drewN m)
    case first =>
      go_quiet (fail)
      go_wp2_with fail
      go_meet
      case rel => exact ⟨rfl, _, rfl⟩
    case rest =>
      obtain ⟨rfl, m, rfl⟩ := hcut
      have H1 := Lib.hid (H.out.drewN m)
      have HW := Lib.hid ((Went.refl (fun k => lab k ≠ .out) w).drewN m)
      have d24 : (w.drewN m).cell? ⟨p, 24, none⟩ = some (.pointer (some ⟨a, 0, none⟩)) := c24
      generalize w.drewN m = w1 at *
      clear c24 c15 a1
      go_wp2_with fail
      refine (topen_any p t lab a b _ (by exact H1.out) true (by show t.own.length < 1000; rw [HN.out]; exact hlen) a rfl).mono ?_
      rintro e w2 ⟨y, lab', rfl, hs, hst, hw⟩
      obtain ⟨bs, br, fs, fr, hyb, _⟩ := hst
      have y0 := (cell_at hyb 0).trans (by rfl : _ = some (Value.int .u64 (t.nid true)))
      rw [HNID.out] at y0
      have HF := Lib.hid (show ∃ lab', StAt w2 p (t.add true (t.newH true)) lab' a b ∧ Went (fun k => lab k ≠ .out) (fun k => lab' k ≠ .out) w w2 from ⟨lab', hs, HW.out.trans hw⟩)
      clear hs hyb hw
      go_wp2_with fail
      go_ret2
      exact ⟨rfl, HF.out⟩
end Go.Proofs.YtnneoeimgbemfaaGreat

/- DERIVED. streams: one stream of a set turned, its sender or its receiver. -/
namespace Go.Proofs.YtnneoeimgbemfaaGreat
open Go.RowKit

theorem Yat.same {w : World} {x i y y' : Nat} (h : Yat w x i y) (k : Yat w x i y') : y = y' := by
  obtain ⟨g, n, cv, h1, h2⟩ := h
  obtain ⟨g', n', cv', k1, k2⟩ := k
  rw [h1] at k1
  cases k1
  rw [h2] at k2
  cases k2
  rfl
theorem cell_lt1 {w : World} {x i : Nat} {v : Value} (h : w.cell? ⟨x, i, none⟩ = some v) : x < w.heap.size := by
  rcases Nat.lt_or_ge x w.heap.size with q | q
  · exact q
  · exfalso
    simp only [World.cell?] at h
    rw [Array.getElem?_eq_none (by omega)] at h
    cases h
theorem cell_updY {F : Nat → Prop} {w w' : World} {b o : Nat} {v : Value} (hu : Upd F w w') (h : w.cell? ⟨b, o, none⟩ = some v) (hF : ¬ F b) (hb : b < w.heap.size) : w'.cell? ⟨b, o, none⟩ = some v :=
  (World.cell?_of_block (w := w) (a := ⟨b, o, none⟩) (hu.block b hb hF)).trans h
theorem Yat.below {w w' : World} {x i y : Nat} (h : Yat w x i y) (hb : Below w.heap.size w w') : Yat w' x i y := by
  obtain ⟨g, n, cv, h1, h2⟩ := h
  exact ⟨g, n, cv, cell_keep hb (cell_lt1 h1) h1, cell_keep hb (cell_lt1 h2) h2⟩
/-- A stream put in another's place. -/
def ST.put (t : ST) (o : Bool) (i : Nat) (h : H1) : ST := if o then { t with own := t.own.set i h } else { t with others := t.others.set i h }
theorem ST.put_hs (t : ST) (o : Bool) (i : Nat) (h : H1) : (t.put o i h).hs o = (t.hs o).set i h ∧ (t.put o i h).hs (!o) = t.hs (!o) ∧ (t.put o i h).rest = t.rest ∧ (t.put o i h).mine = t.mine ∧ (t.put o i h).theirs = t.theirs := by
  cases o <;> exact ⟨rfl, rfl, rfl, rfl, rfl⟩
theorem tcells_put (t : ST) (o : Bool) (i : Nat) (h : H1) (a b : Nat) : tcells (t.put o i h) a b = tcells t a b := by cases o <;> rfl
theorem ST.put_ok {t : ST} (k : t.Ok) (o : Bool) (i : Nat) {h h' : H1} (hi : (t.hs o)[i]? = some h) (e1 : h'.id = h.id) (e2 : h'.s.id = h.s.id) (e3 : h'.r.id = h.r.id) : (t.put o i h').Ok := by
  cases o
  · refine ⟨k.mine, k.theirs, k.rest, k.own, by show (t.others.set i h').length ≤ 1000; rw [List.length_set]; exact k.others, k.hown, fun j x hj => ?_, k.last, k.limit, k.allowed⟩
    replace hj : (t.others.set i h')[j]? = some x := hj
    have hi : t.others[i]? = some h := hi
    rw [List.getElem?_set] at hj
    split at hj
    · rename_i hij
      subst hij
      split at hj
      · cases hj
        obtain ⟨q1, q2, q3⟩ := k.hothers i h hi
        exact ⟨e1.trans q1, e2.trans (q2.trans e1.symm), e3.trans (q3.trans e1.symm)⟩
      · cases hj
    · exact k.hothers j x hj
  · refine ⟨k.mine, k.theirs, k.rest, by show (t.own.set i h').length ≤ 1000; rw [List.length_set]; exact k.own, k.others, fun j x hj => ?_, k.hothers, k.last, k.limit, k.allowed⟩
    replace hj : (t.own.set i h')[j]? = some x := hj
    have hi : t.own[i]? = some h := hi
    rw [List.getElem?_set] at hj
    split at hj
    · rename_i hij
      subst hij
      split at hj
      · cases hj
        obtain ⟨q1, q2, q3⟩ := k.hown i h hi
        exact ⟨e1.trans q1, e2.trans (q2.trans e1.symm), e3.trans (q3.trans e1.symm)⟩
      · cases hj
    · exact k.hown j x hj
open Classical in
/-- The labels with more blocks of one kind. -/
noncomputable def labMore (lab : Nat → Lab) (f : Nat → Prop) (l : Lab) (k : Nat) : Lab := if f k then l else lab k
theorem StAt.pick {w : World} {p a b : Nat} {t : ST} {lab : Nat → Lab} (h : StAt w p t lab a b) {o : Bool} {i : Nat} {hh : H1} (hi : (t.hs o)[i]? = some hh) : ∃ y, Yat w (if o then a else b) i y ∧ StrAt w lab o i y hh := by
  obtain ⟨ov, cv, _, _, _, _, he⟩ := side_elt (h.sde o)
  obtain ⟨g, y, _, _, _, hy, hs⟩ := he i hh hi
  exact ⟨y, hy, hs⟩
/-- The rows of both sides are as they were. -/
def YK (w w' : World) (a b : Nat) : Prop := ∀ (o : Bool) (i y : Nat), Yat w (if o then a else b) i y → Yat w' (if o then a else b) i y
theorem YK.refl (w : World) (a b : Nat) : YK w w a b := fun _ _ _ h => h
theorem YK.trans {u v w : World} {a b : Nat} (h : YK u v a b) (k : YK v w a b) : YK u w a b := fun o i y q => k o i y (h o i y q)
theorem YK.below {w w' : World} (a b : Nat) (hb : Below w.heap.size w w') : YK w w' a b := fun _ _ _ h => h.below hb
theorem StAt.yk {w w' : World} {p a b : Nat} {t : ST} {lab : Nat → Lab} (h : StAt w p t lab a b) {F : Nat → Prop} (hu : Upd F w w') (hF : ∀ k, F k → lab k = .out ∨ (∃ o i, lab k = .snd o i) ∨ (∃ o i, lab k = .rcv o i)) : YK w w' a b := by
  intro o i y hy
  obtain ⟨v, og, ys, s1, s2, s3, s4, s5, s6⟩ := h.sde o
  obtain ⟨g, n, cv, h1, h2⟩ := hy
  have e1 : v = .slice (some ⟨g, 0, none⟩) n cv := by
    have := (cell_at s1 1).symm.trans h1
    simpa using this
  subst e1
  have hog : og = some g := by
    rcases s3 with ⟨e, _, _⟩ | ⟨g', z', q1, q2, _, _⟩
    · cases e
    · cases q2
      exact q1
  have lg := s4 g hog
  have hx : ¬ F (if o then a else b) := fun q => by
    rcases hF _ q with e | ⟨_, _, e⟩ | ⟨_, _, e⟩ <;> rw [s2] at e <;> cases e
  have hg : ¬ F g := fun q => by
    rcases hF _ q with e | ⟨_, _, e⟩ | ⟨_, _, e⟩ <;> rw [lg] at e <;> cases e
  exact ⟨g, n, cv, cell_updY hu h1 hx (cell_lt1 h1), cell_updY hu h2 hg (cell_lt1 h2)⟩
theorem ST.put_self {t : ST} {o : Bool} {i : Nat} {h : H1} (hi : (t.hs o)[i]? = some h) : t.put o i h = t := by
  have key : ∀ l : List H1, l[i]? = some h → l.set i h = l := fun l hl => by
    apply List.ext_getElem?
    intro j
    rw [List.getElem?_set]
    split
    · rename_i e
      subst e
      rw [List.getElem?_eq_some_iff] at hl
      obtain ⟨q, rfl⟩ := hl
      rw [if_pos q]
      exact (List.getElem?_eq_getElem q).symm
    · rfl
  cases o
  · show { t with others := t.others.set i h } = t
    rw [key t.others hi]
  · show { t with own := t.own.set i h } = t
    rw [key t.own hi]
/-- One stream, and what a turn of one of its halves makes of the set. -/
theorem StAt.turn {w : World} {p a b : Nat} {t : ST} {lab : Nat → Lab} (h : StAt w p t lab a b) {o : Bool} {i y : Nat} {hh : H1} (hi : (t.hs o)[i]? = some hh) (hy : Yat w (if o then a else b) i y) :
    ∃ bs br fs fr, w.heap[y]? = some (.cells #[.int .u64 hh.id, .pointer (some ⟨bs, 0, none⟩), .pointer (some ⟨br, 0, none⟩)] 72 (0, 0)) ∧ SdAt w bs hh.s fs ∧ RAt w br hh.r fr ∧ (∀ k, fs k → lab k = .snd o i) ∧ (∀ k, fr k → lab k = .rcv o i) ∧
      (∀ w' s', SdM w w' fs bs s' → s'.id = hh.s.id → ∃ lab', StAt w' p (t.put o i ⟨hh.id, s', hh.r⟩) lab' a b ∧ Went (fun k => lab k ≠ .out) (fun k => lab' k ≠ .out) w w' ∧ YK w w' a b) ∧
      (∀ w' r', RM w w' fr br r' → r'.id = hh.r.id → ∃ lab', StAt w' p (t.put o i ⟨hh.id, hh.s, r'⟩) lab' a b ∧ Went (fun k => lab k ≠ .out) (fun k => lab' k ≠ .out) w w' ∧ YK w w' a b) := by
  obtain ⟨y0, hy0, hst⟩ := h.pick hi
  obtain rfl := hy0.same hy
  obtain ⟨bs, br, fs, fr, h1, h2, h3, h4, h5, h6⟩ := hst
  -- both turns in one
  have key : ∀ (w' : World) (l : Lab) (f f' : Nat → Prop) (h' : H1), (l = .snd o i ∨ l = .rcv o i) → (∀ k, f k → lab k = l) → Went f f' w w' → (∀ k, f' k → k < w'.heap.size) → h'.id = hh.id → h'.s.id = hh.s.id → h'.r.id = hh.r.id →
      (∀ lab' : Nat → Lab, (∀ k, k < w.heap.size → lab' k = lab k) → (∀ k, f' k → lab' k = l) → StrAt w' lab' o i y0 h') →
      ∃ lab', StAt w' p (t.put o i h') lab' a b ∧ Went (fun k => lab k ≠ .out) (fun k => lab' k ≠ .out) w w' ∧ YK w w' a b := by
    intro w' l f f' h' hl hf hw hfl' e1 e2 e3 hst'
    have hln : l ≠ .out ∧ l ≠ .set ∧ (∀ o', l ≠ .side o') ∧ (∀ o', l ≠ .row o') ∧ (∀ o' i', l ≠ .str o' i') ∧ (∀ o' i', (o', i') ≠ (o, i) → l ≠ .snd o' i' ∧ l ≠ .rcv o' i') := by
      rcases hl with rfl | rfl
      all_goals
        refine ⟨by simp, by simp, by simp, by simp, by simp, fun o' i' q => ⟨?_, ?_⟩⟩
        all_goals
          intro e
          cases e
          try exact q rfl
    obtain ⟨lab', hlab⟩ : ∃ lab' : Nat → Lab, lab' = labMore lab f' l := ⟨_, rfl⟩
    have hold : ∀ k, k < w.heap.size → lab' k = lab k := fun k hk => by
      rw [hlab]
      unfold labMore
      by_cases q : f' k
      · rw [if_pos q]
        rcases hw.new k q with e | e
        · exact (hf k e).symm
        · omega
      · rw [if_neg q]
    have hnew : ∀ k, f' k → lab' k = l := fun k hk => by rw [hlab]; unfold labMore; rw [if_pos hk]
    have hlt : ∀ k, lab' k ≠ .out → lab k ≠ .out ∨ (f' k) := fun k hk => by
      by_cases q : f' k
      · exact .inr q
      · left
        rw [hlab] at hk
        unfold labMore at hk
        rw [if_neg q] at hk
        exact hk
    have hfl : ∀ k l', f k → l' ≠ l → lab k ≠ l' := fun k l' hk hn e => hn (e.symm.trans (hf k hk))
    -- the other streams
    have hstr : ∀ o' i' y' x', (o', i') ≠ (o, i) → StrAt w lab o' i' y' x' → StrAt w' lab' o' i' y' x' := fun o' i' y' x' hn hs => by
      have hk := hs.keeps hw.upd (fun k hk => ⟨hfl k _ hk (hln.2.2.2.2.1 o' i').symm, hfl k _ hk ((hln.2.2.2.2.2 o' i' hn).1).symm, hfl k _ hk ((hln.2.2.2.2.2 o' i' hn).2).symm⟩)
      obtain ⟨bs', br', fs', fr', k1, k2, k3, k4, k5, k6⟩ := hs
      obtain ⟨q1, q2⟩ : (∀ k, fs' k → k < w.heap.size) ∧ (∀ k, fr' k → k < w.heap.size) := ⟨k3.lt.2, k5.lt.2⟩
      refine ⟨bs', br', fs', fr', hw.upd.keeps k1 (fun q => hfl y' _ q (hln.2.2.2.2.1 o' i').symm k2), (hold y' (heap_lt k1)).trans k2, k3.keeps hw.upd (fun k hk q => hfl k _ q ((hln.2.2.2.2.2 o' i' hn).1).symm (k4 k hk)), fun k hk => (hold k (q1 k hk)).trans (k4 k hk),
        k5.keeps hw.upd (fun k hk q => hfl k _ q ((hln.2.2.2.2.2 o' i' hn).2).symm (k6 k hk)), fun k hk => (hold k (q2 k hk)).trans (k6 k hk)⟩
    have hsde : ∀ o', SdeAt w' lab' o' (if o' then a else b) (if o' then t.rest else 1 - t.rest) ((t.put o i h').hs o') := fun o' => by
      obtain ⟨v, og, ys, s1, s2, s3, s4, s5, s6⟩ := h.sde o'
      refine ⟨v, og, ys, hw.upd.keeps s1 (fun q => hfl _ _ q (hln.2.2.1 o').symm s2), (hold _ (heap_lt s1)).trans s2, s3.keeps hw.upd (fun g hg q => hfl g _ q (hln.2.2.2.1 o').symm (s4 g hg)), fun g hg => (hold g (s3.lt g hg)).trans (s4 g hg), ?_, ?_⟩
      · by_cases ho : o' = o
        · subst ho
          rw [(t.put_hs o' i h').1, List.length_set]
          exact s5
        · obtain rfl : o' = !o := by cases o <;> cases o' <;> simp_all
          rw [(t.put_hs o i h').2.1]
          exact s5
      · intro j x hj
        by_cases ho : o' = o
        · subst ho
          rw [(t.put_hs o' i h').1, List.getElem?_set] at hj
          by_cases hij : i = j
          · subst hij
            rw [if_pos rfl] at hj
            obtain ⟨y', z1, z2⟩ := s6 i hh hi
            obtain ⟨ov, cv, _, _, _, _, he⟩ := side_elt (h.sde o')
            have hya : Yat w (if o' then a else b) i y' := by
              obtain ⟨ov, cv, rfl, hc1, hc2⟩ := s3.shape
              obtain ⟨g, rfl, rfl, hgl, hg1, _⟩ := s3.el1 (f := fun y : Option Nat => Value.pointer (y.map fun y => ⟨y, 0, none⟩)) (fun _ => rfl) z1
              exact ⟨g, _, cv, (cell_at s1 1).trans rfl, hg1⟩
            obtain rfl := hya.same hy0
            split at hj
            · cases hj
              exact ⟨y', z1, hst' lab' hold hnew⟩
            · cases hj
          · rw [if_neg hij] at hj
            obtain ⟨y', z1, z2⟩ := s6 j x hj
            exact ⟨y', z1, hstr o' j y' x (fun e => hij (by cases e; rfl)) z2⟩
        · obtain rfl : o' = !o := by cases o <;> cases o' <;> simp_all
          rw [(t.put_hs o i h').2.1] at hj
          obtain ⟨y', z1, z2⟩ := s6 j x hj
          exact ⟨y', z1, hstr (!o) j y' x (fun e => by cases o <;> simp at e) z2⟩
    refine ⟨lab', ⟨?_, ?_, ?_, ?_, ?_, ST.put_ok h.ok o i hi e1 e2 e3⟩, ⟨hw.upd.mono (fun k _ hk => by rw [hf k hk]; exact hln.1), fun k hk => ?_⟩, h.yk hw.upd (fun k hk => by
      rw [hf k hk]
      rcases hl with rfl | rfl
      · exact .inr (.inl ⟨_, _, rfl⟩)
      · exact .inr (.inr ⟨_, _, rfl⟩))⟩
    · rw [tcells_put]
      exact hw.upd.keeps h.blk (fun q => hfl p _ q hln.2.1.symm h.lp)
    · exact (hold p (heap_lt h.blk)).trans h.lp
    · have := hsde true
      rw [(t.put_hs o i h').2.2.1]
      exact this
    · have := hsde false
      rw [(t.put_hs o i h').2.2.1]
      exact this
    · intro k hk
      rcases hlt k hk with q | q
      · have := h.lt k q
        have := hw.upd.size
        omega
      · exact hfl' k q
    · rcases hlt k hk with q | q
      · exact .inl q
      · rcases hw.new k q with e | e
        · left
          rw [hf k e]
          exact hln.1
        · exact .inr e
  refine ⟨bs, br, fs, fr, h1, h3, h5, h4, h6, fun w' s' hm es => ?_, fun w' r' hm er => ?_⟩
  · obtain ⟨fs', m1, m2⟩ := hm
    refine key w' (.snd o i) fs fs' ⟨hh.id, s', hh.r⟩ (.inl rfl) h4 m2 m1.lt.2 rfl es rfl (fun lab' g1 g2 => ?_)
    exact ⟨bs, br, fs', fr, m2.upd.keeps h1 (fun q => by have := h4 y0 q; rw [h2] at this; cases this), (g1 y0 (heap_lt h1)).trans h2, m1, g2, h5.keeps m2.upd (fun k hk q => by have := h4 k q; rw [h6 k hk] at this; cases this), fun k hk => (g1 k (h5.lt.2 k hk)).trans (h6 k hk)⟩
  · obtain ⟨fr', m1, m2⟩ := hm
    refine key w' (.rcv o i) fr fr' ⟨hh.id, hh.s, r'⟩ (.inr rfl) h6 m2 m1.lt.2 rfl rfl er (fun lab' g1 g2 => ?_)
    exact ⟨bs, br, fs, fr', m2.upd.keeps h1 (fun q => by have := h6 y0 q; rw [h2] at this; cases this), (g1 y0 (heap_lt h1)).trans h2, h3.keeps m2.upd (fun k hk q => by have := h6 k q; rw [h4 k hk] at this; cases this), fun k hk => (g1 k (h3.lt.2 k hk)).trans (h4 k hk), m1, g2⟩
end Go.Proofs.YtnneoeimgbemfaaGreat
