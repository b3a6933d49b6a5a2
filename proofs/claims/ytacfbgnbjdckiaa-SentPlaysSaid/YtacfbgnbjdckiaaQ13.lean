/- DERIVED. What do answers: Add (printed by mksqdo2.py). -/
import Derived.Test.YtacfbgnbjdckiaaQ11
import Derived.Test.YtacfbgnbjdckiaaQ12
namespace Go.Proofs.Ytacfbgnbjdckiaa
open Go.RowKit

theorem add_poke {w1 cur : World} {x g16 cg : Nat} {old : Array Value} (n : Nat) (tm sz : Int) (asks : Bool) (f : SlG encG 77 cur (.slice (some ⟨g16, 0, none⟩) 1 cg) (some g16) [true]) (hr : cur.heap[x]? = some (.cells old 32 (0, 0))) (hB : Below w1.heap.size w1 cur) (hx : w1.heap.size ≤ x) (hgx : g16 ≠ x) :
    PkF (cur.setRow x #[.int .u64 n, .int .i64 tm, .int .i64 sz, .bool asks, .slice (some ⟨g16, 0, none⟩) 1 cg]) ⟨n, tm, sz, asks, some ⟨g16, 0, none⟩, 1, cg⟩ ∧ (cur.setRow x #[.int .u64 n, .int .i64 tm, .int .i64 sz, .bool asks, .slice (some ⟨g16, 0, none⟩) 1 cg]).heap[x]? = some (.cells #[.int .u64 n, .int .i64 tm, .int .i64 sz, .bool asks, .slice (some ⟨g16, 0, none⟩) 1 cg] 32 (0, 0)) ∧
      Below w1.heap.size w1 (cur.setRow x #[.int .u64 n, .int .i64 tm, .int .i64 sz, .bool asks, .slice (some ⟨g16, 0, none⟩) 1 cg]) :=
  ⟨⟨Nat.le_refl _, SlG.keeps f (setRow_updx _ x _) (fun g e q => by cases e; exact hgx q)⟩, setRow_heap _ _ _ _ _ _ hr, setRow_below hB hx⟩
set_option maxRecDepth 100000 in
set_option maxHeartbeats 4000000 in
theorem do_add {W : World} (b c : Nat) (s d : LS) (fp fq : Nat → Prop) (kd : Int) (sk sz : Int) (asks : Bool) (tm : Int) (fr : Nat) (vrows : Value) (pn : Nat) (pt pz : Int) (pa : Bool) (pfa : Option Addr) (pfl pfc : Nat) (vr : Value) (w : World) (h : Two W w b c s d fp fq) (hs : s.core = d.core)
    (ha : AkSOk W W.heap.size ⟨kd, sk, sz, asks, tm, fr, vrows, pn, pt, pz, pa, pfa, pfl, pfc, vr⟩) (hk5 : ¬ kd = 5) (hk6 : ¬ kd = 6) (hk7 : ¬ kd = 7) (hk9 : ¬ kd = 9) (hk10 : ¬ kd = 10) :
    Calls Try.prog 18 #[.pointer (some ⟨b, 0, none⟩), .pointer (some ⟨c, 0, none⟩), .agg #[.int .i64 kd, .int .i64 sk, .int .i64 sz, .bool asks, .int .i64 tm, .int .u64 fr, vrows, .int .u64 pn, .int .i64 pt, .int .i64 pz, .bool pa, .slice pfa pfl pfc, vr]] w (DoPost W b c) := by
  have H := Lib.hid h
  have HSIM := Lib.hid hs
  have HA := Lib.hid (ha.below h.below)
  have hfr := ha.fr
  have hW := h.below.size
  obtain ⟨nx, hnx⟩ : ∃ nx, s.nx = nx := ⟨_, rfl⟩
  have hnx2 : d.nx = nx := by rw [← (LS.core_eq hs).2.1]; exact hnx
  have hnxb : nx ≤ 4611686018427387904 := by rw [← hnx]; exact h.p.ok.nx
  have HNX := Lib.hid (And.intro hnx hnx2)
  obtain ⟨hsk1, hsk2⟩ := ha.sk
  obtain ⟨hsz1, hsz2⟩ := ha.sz
  obtain ⟨htm1, htm2⟩ := ha.tm
  obtain ⟨hpt1, hpt2⟩ := ha.pt
  obtain ⟨hpz1, hpz2⟩ := ha.pz
  have hpn := ha.pn
  simp only at hfr hsk1 hsk2 hsz1 hsz2 htm1 htm2 hpt1 hpt2 hpz1 hpz2 hpn
  obtain ⟨rs0, hvr, hrs0⟩ := ha.rg
  obtain ⟨xs, hxs, hxsb⟩ := ha.rows
  have HVR := Lib.hid (And.intro (hvr.below h.below) hrs0)
  have HXS := Lib.hid (And.intro (hxs.below h.below) hxsb)
  clear h hs ha hnx hnx2 hvr hrs0 hxs hxsb
  go_enter Try.func18, Try.ntmps18
  go_upto_region 0 with fail
  go_cut [5, 6] (fun v f wx => ∃ z, v = .pointer (some ⟨z, 0, none⟩) ∧ f = .bool false ∧ w.heap.size ≤ z ∧ Below w.heap.size w wx ∧ wx.heap[z]? = some (.cells #[.int .i64 kd, .int .i64 sk, .int .i64 sz, .bool asks, .int .i64 tm, .int .u64 fr, vrows, .int .u64 pn, .int .i64 pt, .int .i64 pz, .bool pa, .slice pfa pfl pfc, vr] 56 (0, 0)))
  case first =>
    go_wp2_with fail
    go_meet
    case rel => exact ⟨_, rfl, rfl, Nat.le_refl _, (Below.refl _ _).alloc (Nat.le_refl _) _, alloc_at _ _⟩
  case rest =>
  obtain ⟨z, rfl, rfl, hz, hb, hkz⟩ := hcut
  have H1 := Lib.hid (H.out.later hb)
  have HKZ := Lib.hid hkz
  have HZ := Lib.hid (show ¬ fp z ∧ ¬ fq z from ⟨fun q => by have := H.out.p.lt.2 z q; omega, fun q => by have := H.out.d.lt.2 z q; omega⟩)
  have HB := Lib.hid hb
  have hzl := heap_lt hkz
  have hbs := hb.size
  have hcz : ¬ c = z := by have := H.out.d.lt.2 c H.out.d.lt.1; omega
  have hzc : ¬ z = c := fun e => hcz e.symm
  have z0 := (cell_at hkz 0).trans (by rfl : _ = some (Value.int .i64 kd))
  have c1 : wc.cell? ⟨c, 1, none⟩ = some (.int .u64 nx) := by rw [H1.out.d.cells.1, HNX.out.2]
  clear hb hkz
  generalize wc = w1 at *
  obtain ⟨k, hk, hkb⟩ : ∃ k : Nat, withinS sk 0 2 = (k : Int) ∧ k ≤ 2 := ⟨(withinS sk 0 2).toNat, by have := withinS_bd sk 0 2 (by omega); omega, by have := withinS_bd sk 0 2 (by omega); omega⟩
  have HWK := Lib.hid hk
  have hwk : IntKind.u64.wrap (k : Int) = k := IntWalk.u64_in _ (by omega)
  obtain ⟨n, hn, hnp⟩ : ∃ n : Nat, (nx : Int) + (k : Int) = (n : Int) ∧ nx + k = n := ⟨nx + k, by omega, rfl⟩
  have hwn : IntKind.u64.wrap (n : Int) = n := IntWalk.u64_in _ (by omega)
  have HN := Lib.hid (show n < 18446744073709551616 by omega)
  have HSof := Lib.hid (show ∀ W, Below w1.heap.size w1 W → W.cell? ⟨c, 1, none⟩ = some (.int .u64 nx) ∧ W.cell? ⟨z, 1, none⟩ = some (.int .i64 sk) ∧ W.cell? ⟨z, 4, none⟩ = some (.int .i64 tm) ∧ W.cell? ⟨z, 2, none⟩ = some (.int .i64 sz) ∧ W.cell? ⟨z, 3, none⟩ = some (.bool asks) from fun W hW => by
    have h := below_keeps hW HKZ.out (heap_lt HKZ.out)
    exact ⟨cell_keep hW (H1.out.d.lt.2 c H1.out.d.lt.1) c1, (cell_at h 1).trans rfl, (cell_at h 4).trans rfl, (cell_at h 2).trans rfl, (cell_at h 3).trans rfl⟩)
  clear hk
  have e5 : (kd == (5 : Int)) = false := by simpa using hk5
  have q5 : decide (kd = (5 : Int)) = false := by simpa using hk5
  have e6 : (kd == (6 : Int)) = false := by simpa using hk6
  have q6 : decide (kd = (6 : Int)) = false := by simpa using hk6
  have e7 : (kd == (7 : Int)) = false := by simpa using hk7
  have q7 : decide (kd = (7 : Int)) = false := by simpa using hk7
  have e9 : (kd == (9 : Int)) = false := by simpa using hk9
  have q9 : decide (kd = (9 : Int)) = false := by simpa using hk9
  have e10 : (kd == (10 : Int)) = false := by simpa using hk10
  have q10 : decide (kd = (10 : Int)) = false := by simpa using hk10
  go_upto_region 2 with fail
  go_cut [19] (fun v wx => ∃ (x : Nat) (p : Pk), v = .pointer (some ⟨x, 0, none⟩) ∧ wx.heap[x]? = some (.cells (encQ p).toArray 32 (0, 0)) ∧ PkF wx p ∧ (∀ g, p.fo = some g → w1.heap.size ≤ g) ∧ w1.heap.size ≤ x ∧ Below w1.heap.size w1 wx ∧ p.n < 18446744073709551616 ∧ I64 p.t ∧ I64 p.z)
  case first =>
    go_wp2_with fail
    have hB : Below w1.heap.size w1 w1.drew := (Below.refl _ _).drew
    refine wp_region_till (S := fun w' => w'.cell? ⟨c, 1, none⟩ = some (.int .u64 nx) ∧ w'.cell? ⟨z, 1, none⟩ = some (.int .i64 sk) ∧ w'.cell? ⟨z, 4, none⟩ = some (.int .i64 tm) ∧ w'.cell? ⟨z, 2, none⟩ = some (.int .i64 sz) ∧ w'.cell? ⟨z, 3, none⟩ = some (.bool asks)) [19] (by kernel_rfl) (by exact HSof.out _ hB) (fun hHeld => ?_)
    refine wpTill_take0 (i := 0) (oi := ⟨some 22, _, _, _, _, _⟩) (v := ?_) rfl (by kernel_rfl) (fun _ _ _ h => h) (Or.inl ⟨by rfl, ?_⟩) (fun _ => hHeld) ?_
    rotate_left
    · intro w hSw
      (try dsimp only at hSw)
      go_simp
      try with_reducible rfl
    try simp only [Act.put, List.setIfInBounds_toArray, List.set_cons_zero, List.set_cons_succ]
    refine wpTill_take0 (i := 1) (oi := ⟨some 23, _, _, _, _, _⟩) (v := ?_) rfl (by kernel_rfl) (fun _ _ _ h => h) (Or.inl ⟨by rfl, ?_⟩) (fun _ => hHeld) ?_
    rotate_left
    · intro w hSw
      (try dsimp only at hSw)
      go_simp
      try with_reducible rfl
    try simp only [Act.put, List.setIfInBounds_toArray, List.set_cons_zero, List.set_cons_succ]
    refine wpTill_take0 (i := 2) (oi := ⟨some 24, _, _, _, _, _⟩) (v := ?_) rfl (by kernel_rfl) (fun _ _ _ h => h) (Or.inl ⟨by rfl, ?_⟩) (fun _ => hHeld) ?_
    rotate_left
    · intro w hSw
      (try dsimp only at hSw)
      go_simp
      try with_reducible rfl
    try simp only [Act.put, List.setIfInBounds_toArray, List.set_cons_zero, List.set_cons_succ]
    refine wpTill_take (i := 3) (oi := ⟨some 25, _, _, _, _, _⟩) (v := ?_) rfl (by kernel_rfl) (fun _ _ _ h => h) (Or.inl ⟨by rfl, ?_⟩) (by exact hHeld) ?_
    rotate_left
    · intro w hSw
      (try dsimp only at hSw)
      go_simp
      try with_reducible rfl
    try simp only [Act.put, List.setIfInBounds_toArray, List.set_cons_zero, List.set_cons_succ]
    refine wpTill_take0 (i := 4) (oi := ⟨some 26, _, _, _, _, _⟩) (v := ?_) rfl (by kernel_rfl) (fun _ _ _ h => h) (Or.inl ⟨by rfl, ?_⟩) (fun _ => hHeld) ?_
    rotate_left
    · intro w hSw
      (try dsimp only at hSw)
      go_simp
      try with_reducible rfl
    try simp only [Act.put, List.setIfInBounds_toArray, List.set_cons_zero, List.set_cons_succ]
    refine wpTill_take (i := 5) (oi := ⟨some 27, _, _, _, _, _⟩) (v := ?_) rfl (by kernel_rfl) (fun _ _ _ h => h) (Or.inl ⟨by rfl, ?_⟩) (by exact hHeld) ?_
    rotate_left
    · intro w hSw
      (try dsimp only at hSw)
      go_simp
      try with_reducible rfl
    try simp only [Act.put, List.setIfInBounds_toArray, List.set_cons_zero, List.set_cons_succ]
    refine wpTill_take0 (i := 9) (oi := ⟨some 31, _, _, _, _, _⟩) (v := ?_) rfl (by kernel_rfl) (fun _ _ _ h => h) (Or.inl ⟨by rfl, ?_⟩) (fun _ => hHeld) ?_
    rotate_left
    · intro w hSw
      (try dsimp only at hSw)
      go_simp
      try with_reducible rfl
    try simp only [Act.put, List.setIfInBounds_toArray, List.set_cons_zero, List.set_cons_succ]
    refine wpTill_take (i := 10) (oi := ⟨some 32, _, _, _, _, _⟩) (v := ?_) rfl (by kernel_rfl) (fun _ _ _ h => h) (Or.inl ⟨by rfl, ?_⟩) (by exact hHeld) ?_
    rotate_left
    · intro w hSw
      (try dsimp only at hSw)
      go_simp
      try with_reducible rfl
    try simp only [Act.put, List.setIfInBounds_toArray, List.set_cons_zero, List.set_cons_succ]
    refine wpTill_take0 (i := 11) (oi := ⟨some 33, _, _, _, _, _⟩) (v := ?_) rfl (by kernel_rfl) (fun _ _ _ h => h) (Or.inl ⟨by rfl, ?_⟩) (fun _ => hHeld) ?_
    rotate_left
    · intro w hSw
      (try dsimp only at hSw)
      go_simp
      try with_reducible rfl
    try simp only [Act.put, List.setIfInBounds_toArray, List.set_cons_zero, List.set_cons_succ]
    refine wpTill_take (i := 12) (oi := ⟨some 34, _, _, _, _, _⟩) (v := ?_) rfl (by kernel_rfl) (fun _ _ _ h => h) (Or.inl ⟨by rfl, ?_⟩) (by exact hHeld) ?_
    rotate_left
    · intro w hSw
      (try dsimp only at hSw)
      go_simp
      try with_reducible rfl
    try simp only [Act.put, List.setIfInBounds_toArray, List.set_cons_zero, List.set_cons_succ]
    refine wpTill_take0 (i := 13) (oi := ⟨some 35, _, _, _, _, _⟩) (v := ?_) rfl (by kernel_rfl) (fun _ _ _ h => h) (Or.inl ⟨by rfl, ?_⟩) (fun _ => hHeld) ?_
    rotate_left
    · intro w hSw
      (try dsimp only at hSw)
      go_simp
      try with_reducible rfl
    try simp only [Act.put, List.setIfInBounds_toArray, List.set_cons_zero, List.set_cons_succ]
    refine wpTill_take (i := 14) (oi := ⟨some 36, _, _, _, _, _⟩) (v := ?_) rfl (by kernel_rfl) (fun _ _ _ h => h) (Or.inl ⟨by rfl, ?_⟩) (by exact hHeld) ?_
    rotate_left
    · intro w hSw
      (try dsimp only at hSw)
      go_simp
      try with_reducible rfl
    try simp only [Act.put, List.setIfInBounds_toArray, List.set_cons_zero, List.set_cons_succ]
    refine wpTill_take0 (i := 15) (oi := ⟨some 37, _, _, _, _, _⟩) (v := ?_) rfl (by kernel_rfl) (fun _ _ _ h => h) (Or.inl ⟨by rfl, ?_⟩) (fun _ => hHeld) ?_
    rotate_left
    · intro w hSw
      (try dsimp only at hSw)
      go_simp
      try with_reducible rfl
    try simp only [Act.put, List.setIfInBounds_toArray, List.set_cons_zero, List.set_cons_succ]
    refine wpTill_ready (rs := [6, 16, 18]) (by kernel_rfl) (by simp) ?_
    refine AllTill.cons (o := ⟨some 28, _, _, _, _, _⟩) rfl (fun K hK => ?_) ?_
    · go_simp
      go_at_call 15
      refine (within_any sk 0 2 _ (by omega) (by omega) (by omega) (by omega) (by omega)).mono ?_
      rw [HWK.out]
      rintro e w' ⟨rfl, hw⟩
      obtain rfl := hw
      go_wp2_with fail
      refine hK.out _ _ (by exact HSof.out _ hB) (fun hHeld => ?_)
      clear hK K
      try simp only [Act.put, List.setIfInBounds_toArray, List.set_cons_zero, List.set_cons_succ]
      refine wpTill_take0 (i := 7) (oi := ⟨some 29, _, _, _, _, _⟩) (v := ?_) rfl (by kernel_rfl) (fun _ _ _ h => h) (Or.inl ⟨by rfl, ?_⟩) (fun _ => hHeld) ?_
      rotate_left
      · intro w hSw
        (try dsimp only at hSw)
        go_simp
        try with_reducible rfl
      try simp only [Act.put, List.setIfInBounds_toArray, List.set_cons_zero, List.set_cons_succ]
      refine wpTill_take0 (i := 8) (oi := ⟨some 30, _, _, _, _, _⟩) (v := ?_) rfl (by kernel_rfl) (fun _ _ _ h => h) (Or.inl ⟨by rfl, ?_⟩) (fun _ => hHeld) ?_
      rotate_left
      · intro w hSw
        (try dsimp only at hSw)
        go_simp
        try with_reducible rfl
      try simp only [Act.put, List.setIfInBounds_toArray, List.set_cons_zero, List.set_cons_succ]
      refine wpTill_ready (rs := [16, 18]) (by kernel_rfl) (by simp) ?_
      refine AllTill.cons (o := ⟨some 38, _, _, _, _, _⟩) rfl (fun K hK => ?_) ?_
      · refine step_fresh (enc := encG) (E := 77) rfl [true] (encG true).toArray rfl (by simp) (by kernel_rfl) ?_
        intro W16 v16 g16 f16 hg16 hx16
        have n16 : w1.heap.size ≤ g16 := Nat.le_trans hB.size hg16
        have hB := below_call hB hB.size hx16
        obtain ⟨cg, hcg, hcg2⟩ : ∃ cg, v16 = .slice (some ⟨g16, 0, none⟩) 1 cg ∧ True := by
          rcases f16 with ⟨_, h0, _⟩ | ⟨g', ys, h0, h1, _, _⟩
          · cases h0
          · cases h0
            exact ⟨_, h1, trivial⟩
        subst hcg
        refine hK.out _ _ (by exact HSof.out _ hB) (fun hHeld => ?_)
        clear hK K
        try simp only [Act.put, List.setIfInBounds_toArray, List.set_cons_zero, List.set_cons_succ]
        refine wpTill_take0 (i := 17) (oi := ⟨some 39, _, _, _, _, _⟩) (v := ?_) rfl (by kernel_rfl) (fun _ _ _ h => h) (Or.inl ⟨by rfl, ?_⟩) (fun _ => hHeld) ?_
        rotate_left
        · intro w hSw
          (try dsimp only at hSw)
          go_simp
          try with_reducible rfl
        try simp only [Act.put, List.setIfInBounds_toArray, List.set_cons_zero, List.set_cons_succ]
        refine wpTill_ready (rs := [18]) (by kernel_rfl) (by simp) ?_
        refine AllTill.cons (o := ⟨some 19, _, _, _, _, _⟩) rfl (fun K hK => ?_) AllTill.nil
        go_simp
        have hr := alloc_at W16 (.cells #[.int .u64 0, .int .i64 0, .int .i64 0, .bool false, .slice none 0 0] 32)
        have nx18 : w1.heap.size ≤ W16.heap.size := hB.size
        have hgx := f16.lt g16 rfl
        have f16 := SlG.alloc f16 (.cells #[.int .u64 0, .int .i64 0, .int .i64 0, .bool false, .slice none 0 0] 32)
        have hB := hB.alloc hB.size (.cells #[.int .u64 0, .int .i64 0, .int .i64 0, .bool false, .slice none 0 0] 32)
        refine hK.out _ _ (by exact HSof.out _ hB) (fun hHeld => ?_)
        clear hK K
        try simp only [Act.put, List.setIfInBounds_toArray, List.set_cons_zero, List.set_cons_succ]
        refine wpTill_ready (rs := [19]) (by kernel_rfl) (by simp) ?_
        refine AllTill.consD (o := ⟨none, _, _, _, _, _⟩) rfl (by kernel_rfl) (fun K hK => ?_) AllTill.nil
        rw [if_pos (by kernel_rfl)]
        refine wp_store_row 32 (.tmp 19) (.tmp 39) rfl (W16.heap.size) _ rfl rfl 32 #[.int .u64 0, .int .i64 0, .int .i64 0, .bool false, .slice none 0 0] (by exact hr) (by rw [sizeQ]; rfl) rfl (by simp [Value.oneCell']) ?_
        have HF := Lib.hid (add_poke (x := W16.heap.size) n tm sz asks f16 hr hB nx18 (by first | exact Nat.ne_of_lt hgx | exact Nat.ne_of_gt hgx))
        refine hK.out _ _ ?_
        clear hK K
        try simp only [Act.put, List.setIfInBounds_toArray, List.set_cons_zero, List.set_cons_succ]
        refine wpTill_done (by kernel_rfl) ?_ _
        go_wp2_with fail
        go_meet
        case rel => exact ⟨_, ⟨n, tm, sz, asks, some ⟨g16, 0, none⟩, 1, cg⟩, rfl, HF.out.2.1, HF.out.1, fun g e => by cases e; exact n16, nx18, HF.out.2.2, HN.out, ⟨htm1, htm2⟩, ⟨hsz1, hsz2⟩⟩
      refine AllTill.cons (o := ⟨some 19, _, _, _, _, _⟩) rfl (fun K hK => ?_) ?_
      · go_simp
        have hr := alloc_at w1.drew (.cells #[.int .u64 0, .int .i64 0, .int .i64 0, .bool false, .slice none 0 0] 32)
        have nx18 : w1.heap.size ≤ w1.drew.heap.size := hB.size
        have hB := hB.alloc hB.size (.cells #[.int .u64 0, .int .i64 0, .int .i64 0, .bool false, .slice none 0 0] 32)
        refine hK.out _ _ (by exact HSof.out _ hB) (fun hHeld => ?_)
        clear hK K
        try simp only [Act.put, List.setIfInBounds_toArray, List.set_cons_zero, List.set_cons_succ]
        refine wpTill_ready (rs := [16]) (by kernel_rfl) (by simp) ?_
        refine AllTill.cons (o := ⟨some 38, _, _, _, _, _⟩) rfl (fun K hK => ?_) AllTill.nil
        refine step_fresh (enc := encG) (E := 77) rfl [true] (encG true).toArray rfl (by simp) (by kernel_rfl) ?_
        intro W16 v16 g16 f16 hg16 hx16
        have n16 : w1.heap.size ≤ g16 := Nat.le_trans hB.size hg16
        have hgx := Nat.lt_of_lt_of_le (heap_lt hr) hg16
        have hr := below_keeps hx16 hr (heap_lt hr)
        have hB := below_call hB hB.size hx16
        obtain ⟨cg, hcg, hcg2⟩ : ∃ cg, v16 = .slice (some ⟨g16, 0, none⟩) 1 cg ∧ True := by
          rcases f16 with ⟨_, h0, _⟩ | ⟨g', ys, h0, h1, _, _⟩
          · cases h0
          · cases h0
            exact ⟨_, h1, trivial⟩
        subst hcg
        refine hK.out _ _ (by exact HSof.out _ hB) (fun hHeld => ?_)
        clear hK K
        try simp only [Act.put, List.setIfInBounds_toArray, List.set_cons_zero, List.set_cons_succ]
        refine wpTill_take0 (i := 17) (oi := ⟨some 39, _, _, _, _, _⟩) (v := ?_) rfl (by kernel_rfl) (fun _ _ _ h => h) (Or.inl ⟨by rfl, ?_⟩) (fun _ => hHeld) ?_
        rotate_left
        · intro w hSw
          (try dsimp only at hSw)
          go_simp
          try with_reducible rfl
        try simp only [Act.put, List.setIfInBounds_toArray, List.set_cons_zero, List.set_cons_succ]
        refine wpTill_ready (rs := [19]) (by kernel_rfl) (by simp) ?_
        refine AllTill.consD (o := ⟨none, _, _, _, _, _⟩) rfl (by kernel_rfl) (fun K hK => ?_) AllTill.nil
        rw [if_pos (by kernel_rfl)]
        refine wp_store_row 32 (.tmp 19) (.tmp 39) rfl (w1.drew.heap.size) _ rfl rfl 32 #[.int .u64 0, .int .i64 0, .int .i64 0, .bool false, .slice none 0 0] (by exact hr) (by rw [sizeQ]; rfl) rfl (by simp [Value.oneCell']) ?_
        have HF := Lib.hid (add_poke (x := w1.drew.heap.size) n tm sz asks f16 hr hB nx18 (by first | exact Nat.ne_of_lt hgx | exact Nat.ne_of_gt hgx))
        refine hK.out _ _ ?_
        clear hK K
        try simp only [Act.put, List.setIfInBounds_toArray, List.set_cons_zero, List.set_cons_succ]
        refine wpTill_done (by kernel_rfl) ?_ _
        go_wp2_with fail
        go_meet
        case rel => exact ⟨_, ⟨n, tm, sz, asks, some ⟨g16, 0, none⟩, 1, cg⟩, rfl, HF.out.2.1, HF.out.1, fun g e => by cases e; exact n16, nx18, HF.out.2.2, HN.out, ⟨htm1, htm2⟩, ⟨hsz1, hsz2⟩⟩
      exact AllTill.nil
    refine AllTill.cons (o := ⟨some 38, _, _, _, _, _⟩) rfl (fun K hK => ?_) ?_
    · refine step_fresh (enc := encG) (E := 77) rfl [true] (encG true).toArray rfl (by simp) (by kernel_rfl) ?_
      intro W16 v16 g16 f16 hg16 hx16
      have n16 : w1.heap.size ≤ g16 := Nat.le_trans hB.size hg16
      have hB := below_call hB hB.size hx16
      obtain ⟨cg, hcg, hcg2⟩ : ∃ cg, v16 = .slice (some ⟨g16, 0, none⟩) 1 cg ∧ True := by
        rcases f16 with ⟨_, h0, _⟩ | ⟨g', ys, h0, h1, _, _⟩
        · cases h0
        · cases h0
          exact ⟨_, h1, trivial⟩
      subst hcg
      refine hK.out _ _ (by exact HSof.out _ hB) (fun hHeld => ?_)
      clear hK K
      try simp only [Act.put, List.setIfInBounds_toArray, List.set_cons_zero, List.set_cons_succ]
      refine wpTill_ready (rs := [6, 18]) (by kernel_rfl) (by simp) ?_
      refine AllTill.cons (o := ⟨some 28, _, _, _, _, _⟩) rfl (fun K hK => ?_) ?_
      · go_simp
        go_at_call 15
        refine (within_any sk 0 2 _ (by omega) (by omega) (by omega) (by omega) (by omega)).mono ?_
        rw [HWK.out]
        rintro e w' ⟨rfl, hw⟩
        obtain rfl := hw
        go_wp2_with fail
        refine hK.out _ _ (by exact HSof.out _ hB) (fun hHeld => ?_)
        clear hK K
        try simp only [Act.put, List.setIfInBounds_toArray, List.set_cons_zero, List.set_cons_succ]
        refine wpTill_take0 (i := 7) (oi := ⟨some 29, _, _, _, _, _⟩) (v := ?_) rfl (by kernel_rfl) (fun _ _ _ h => h) (Or.inl ⟨by rfl, ?_⟩) (fun _ => hHeld) ?_
        rotate_left
        · intro w hSw
          (try dsimp only at hSw)
          go_simp
          try with_reducible rfl
        try simp only [Act.put, List.setIfInBounds_toArray, List.set_cons_zero, List.set_cons_succ]
        refine wpTill_take0 (i := 8) (oi := ⟨some 30, _, _, _, _, _⟩) (v := ?_) rfl (by kernel_rfl) (fun _ _ _ h => h) (Or.inl ⟨by rfl, ?_⟩) (fun _ => hHeld) ?_
        rotate_left
        · intro w hSw
          (try dsimp only at hSw)
          go_simp
          try with_reducible rfl
        try simp only [Act.put, List.setIfInBounds_toArray, List.set_cons_zero, List.set_cons_succ]
        refine wpTill_take0 (i := 17) (oi := ⟨some 39, _, _, _, _, _⟩) (v := ?_) rfl (by kernel_rfl) (fun _ _ _ h => h) (Or.inl ⟨by rfl, ?_⟩) (fun _ => hHeld) ?_
        rotate_left
        · intro w hSw
          (try dsimp only at hSw)
          go_simp
          try with_reducible rfl
        try simp only [Act.put, List.setIfInBounds_toArray, List.set_cons_zero, List.set_cons_succ]
        refine wpTill_ready (rs := [18]) (by kernel_rfl) (by simp) ?_
        refine AllTill.cons (o := ⟨some 19, _, _, _, _, _⟩) rfl (fun K hK => ?_) AllTill.nil
        go_simp
        have hr := alloc_at W16 (.cells #[.int .u64 0, .int .i64 0, .int .i64 0, .bool false, .slice none 0 0] 32)
        have nx18 : w1.heap.size ≤ W16.heap.size := hB.size
        have hgx := f16.lt g16 rfl
        have f16 := SlG.alloc f16 (.cells #[.int .u64 0, .int .i64 0, .int .i64 0, .bool false, .slice none 0 0] 32)
        have hB := hB.alloc hB.size (.cells #[.int .u64 0, .int .i64 0, .int .i64 0, .bool false, .slice none 0 0] 32)
        refine hK.out _ _ (by exact HSof.out _ hB) (fun hHeld => ?_)
        clear hK K
        try simp only [Act.put, List.setIfInBounds_toArray, List.set_cons_zero, List.set_cons_succ]
        refine wpTill_ready (rs := [19]) (by kernel_rfl) (by simp) ?_
        refine AllTill.consD (o := ⟨none, _, _, _, _, _⟩) rfl (by kernel_rfl) (fun K hK => ?_) AllTill.nil
        rw [if_pos (by kernel_rfl)]
        refine wp_store_row 32 (.tmp 19) (.tmp 39) rfl (W16.heap.size) _ rfl rfl 32 #[.int .u64 0, .int .i64 0, .int .i64 0, .bool false, .slice none 0 0] (by exact hr) (by rw [sizeQ]; rfl) rfl (by simp [Value.oneCell']) ?_
        have HF := Lib.hid (add_poke (x := W16.heap.size) n tm sz asks f16 hr hB nx18 (by first | exact Nat.ne_of_lt hgx | exact Nat.ne_of_gt hgx))
        refine hK.out _ _ ?_
        clear hK K
        try simp only [Act.put, List.setIfInBounds_toArray, List.set_cons_zero, List.set_cons_succ]
        refine wpTill_done (by kernel_rfl) ?_ _
        go_wp2_with fail
        go_meet
        case rel => exact ⟨_, ⟨n, tm, sz, asks, some ⟨g16, 0, none⟩, 1, cg⟩, rfl, HF.out.2.1, HF.out.1, fun g e => by cases e; exact n16, nx18, HF.out.2.2, HN.out, ⟨htm1, htm2⟩, ⟨hsz1, hsz2⟩⟩
      refine AllTill.cons (o := ⟨some 19, _, _, _, _, _⟩) rfl (fun K hK => ?_) ?_
      · go_simp
        have hr := alloc_at W16 (.cells #[.int .u64 0, .int .i64 0, .int .i64 0, .bool false, .slice none 0 0] 32)
        have nx18 : w1.heap.size ≤ W16.heap.size := hB.size
        have hgx := f16.lt g16 rfl
        have f16 := SlG.alloc f16 (.cells #[.int .u64 0, .int .i64 0, .int .i64 0, .bool false, .slice none 0 0] 32)
        have hB := hB.alloc hB.size (.cells #[.int .u64 0, .int .i64 0, .int .i64 0, .bool false, .slice none 0 0] 32)
        refine hK.out _ _ (by exact HSof.out _ hB) (fun hHeld => ?_)
        clear hK K
        try simp only [Act.put, List.setIfInBounds_toArray, List.set_cons_zero, List.set_cons_succ]
        refine wpTill_ready (rs := [6]) (by kernel_rfl) (by simp) ?_
        refine AllTill.cons (o := ⟨some 28, _, _, _, _, _⟩) rfl (fun K hK => ?_) AllTill.nil
        go_simp
        go_at_call 15
        refine (within_any sk 0 2 _ (by omega) (by omega) (by omega) (by omega) (by omega)).mono ?_
        rw [HWK.out]
        rintro e w' ⟨rfl, hw⟩
        obtain rfl := hw
        go_wp2_with fail
        refine hK.out _ _ (by exact HSof.out _ hB) (fun hHeld => ?_)
        clear hK K
        try simp only [Act.put, List.setIfInBounds_toArray, List.set_cons_zero, List.set_cons_succ]
        refine wpTill_take0 (i := 7) (oi := ⟨some 29, _, _, _, _, _⟩) (v := ?_) rfl (by kernel_rfl) (fun _ _ _ h => h) (Or.inl ⟨by rfl, ?_⟩) (fun _ => hHeld) ?_
        rotate_left
        · intro w hSw
          (try dsimp only at hSw)
          go_simp
          try with_reducible rfl
        try simp only [Act.put, List.setIfInBounds_toArray, List.set_cons_zero, List.set_cons_succ]
        refine wpTill_take0 (i := 8) (oi := ⟨some 30, _, _, _, _, _⟩) (v := ?_) rfl (by kernel_rfl) (fun _ _ _ h => h) (Or.inl ⟨by rfl, ?_⟩) (fun _ => hHeld) ?_
        rotate_left
        · intro w hSw
          (try dsimp only at hSw)
          go_simp
          try with_reducible rfl
        try simp only [Act.put, List.setIfInBounds_toArray, List.set_cons_zero, List.set_cons_succ]
        refine wpTill_take0 (i := 17) (oi := ⟨some 39, _, _, _, _, _⟩) (v := ?_) rfl (by kernel_rfl) (fun _ _ _ h => h) (Or.inl ⟨by rfl, ?_⟩) (fun _ => hHeld) ?_
        rotate_left
        · intro w hSw
          (try dsimp only at hSw)
          go_simp
          try with_reducible rfl
        try simp only [Act.put, List.setIfInBounds_toArray, List.set_cons_zero, List.set_cons_succ]
        refine wpTill_ready (rs := [19]) (by kernel_rfl) (by simp) ?_
        refine AllTill.consD (o := ⟨none, _, _, _, _, _⟩) rfl (by kernel_rfl) (fun K hK => ?_) AllTill.nil
        rw [if_pos (by kernel_rfl)]
        refine wp_store_row 32 (.tmp 19) (.tmp 39) rfl (W16.heap.size) _ rfl rfl 32 #[.int .u64 0, .int .i64 0, .int .i64 0, .bool false, .slice none 0 0] (by exact hr) (by rw [sizeQ]; rfl) rfl (by simp [Value.oneCell']) ?_
        have HF := Lib.hid (add_poke (x := W16.heap.size) n tm sz asks f16 hr hB nx18 (by first | exact Nat.ne_of_lt hgx | exact Nat.ne_of_gt hgx))
        refine hK.out _ _ ?_
        clear hK K
        try simp only [Act.put, List.setIfInBounds_toArray, List.set_cons_zero, List.set_cons_succ]
        refine wpTill_done (by kernel_rfl) ?_ _
        go_wp2_with fail
        go_meet
        case rel => exact ⟨_, ⟨n, tm, sz, asks, some ⟨g16, 0, none⟩, 1, cg⟩, rfl, HF.out.2.1, HF.out.1, fun g e => by cases e; exact n16, nx18, HF.out.2.2, HN.out, ⟨htm1, htm2⟩, ⟨hsz1, hsz2⟩⟩
      exact AllTill.nil
    refine AllTill.cons (o := ⟨some 19, _, _, _, _, _⟩) rfl (fun K hK => ?_) ?_
    · go_simp
      have hr := alloc_at w1.drew (.cells #[.int .u64 0, .int .i64 0, .int .i64 0, .bool false, .slice none 0 0] 32)
      have nx18 : w1.heap.size ≤ w1.drew.heap.size := hB.size
      have hB := hB.alloc hB.size (.cells #[.int .u64 0, .int .i64 0, .int .i64 0, .bool false, .slice none 0 0] 32)
      refine hK.out _ _ (by exact HSof.out _ hB) (fun hHeld => ?_)
      clear hK K
      try simp only [Act.put, List.setIfInBounds_toArray, List.set_cons_zero, List.set_cons_succ]
      refine wpTill_ready (rs := [6, 16]) (by kernel_rfl) (by simp) ?_
      refine AllTill.cons (o := ⟨some 28, _, _, _, _, _⟩) rfl (fun K hK => ?_) ?_
      · go_simp
        go_at_call 15
        refine (within_any sk 0 2 _ (by omega) (by omega) (by omega) (by omega) (by omega)).mono ?_
        rw [HWK.out]
        rintro e w' ⟨rfl, hw⟩
        obtain rfl := hw
        go_wp2_with fail
        refine hK.out _ _ (by exact HSof.out _ hB) (fun hHeld => ?_)
        clear hK K
        try simp only [Act.put, List.setIfInBounds_toArray, List.set_cons_zero, List.set_cons_succ]
        refine wpTill_take0 (i := 7) (oi := ⟨some 29, _, _, _, _, _⟩) (v := ?_) rfl (by kernel_rfl) (fun _ _ _ h => h) (Or.inl ⟨by rfl, ?_⟩) (fun _ => hHeld) ?_
        rotate_left
        · intro w hSw
          (try dsimp only at hSw)
          go_simp
          try with_reducible rfl
        try simp only [Act.put, List.setIfInBounds_toArray, List.set_cons_zero, List.set_cons_succ]
        refine wpTill_take0 (i := 8) (oi := ⟨some 30, _, _, _, _, _⟩) (v := ?_) rfl (by kernel_rfl) (fun _ _ _ h => h) (Or.inl ⟨by rfl, ?_⟩) (fun _ => hHeld) ?_
        rotate_left
        · intro w hSw
          (try dsimp only at hSw)
          go_simp
          try with_reducible rfl
        try simp only [Act.put, List.setIfInBounds_toArray, List.set_cons_zero, List.set_cons_succ]
        refine wpTill_ready (rs := [16]) (by kernel_rfl) (by simp) ?_
        refine AllTill.cons (o := ⟨some 38, _, _, _, _, _⟩) rfl (fun K hK => ?_) AllTill.nil
        refine step_fresh (enc := encG) (E := 77) rfl [true] (encG true).toArray rfl (by simp) (by kernel_rfl) ?_
        intro W16 v16 g16 f16 hg16 hx16
        have n16 : w1.heap.size ≤ g16 := Nat.le_trans hB.size hg16
        have hgx := Nat.lt_of_lt_of_le (heap_lt hr) hg16
        have hr := below_keeps hx16 hr (heap_lt hr)
        have hB := below_call hB hB.size hx16
        obtain ⟨cg, hcg, hcg2⟩ : ∃ cg, v16 = .slice (some ⟨g16, 0, none⟩) 1 cg ∧ True := by
          rcases f16 with ⟨_, h0, _⟩ | ⟨g', ys, h0, h1, _, _⟩
          · cases h0
          · cases h0
            exact ⟨_, h1, trivial⟩
        subst hcg
        refine hK.out _ _ (by exact HSof.out _ hB) (fun hHeld => ?_)
        clear hK K
        try simp only [Act.put, List.setIfInBounds_toArray, List.set_cons_zero, List.set_cons_succ]
        refine wpTill_take0 (i := 17) (oi := ⟨some 39, _, _, _, _, _⟩) (v := ?_) rfl (by kernel_rfl) (fun _ _ _ h => h) (Or.inl ⟨by rfl, ?_⟩) (fun _ => hHeld) ?_
        rotate_left
        · intro w hSw
          (try dsimp only at hSw)
          go_simp
          try with_reducible rfl
        try simp only [Act.put, List.setIfInBounds_toArray, List.set_cons_zero, List.set_cons_succ]
        refine wpTill_ready (rs := [19]) (by kernel_rfl) (by simp) ?_
        refine AllTill.consD (o := ⟨none, _, _, _, _, _⟩) rfl (by kernel_rfl) (fun K hK => ?_) AllTill.nil
        rw [if_pos (by kernel_rfl)]
        refine wp_store_row 32 (.tmp 19) (.tmp 39) rfl (w1.drew.heap.size) _ rfl rfl 32 #[.int .u64 0, .int .i64 0, .int .i64 0, .bool false, .slice none 0 0] (by exact hr) (by rw [sizeQ]; rfl) rfl (by simp [Value.oneCell']) ?_
        have HF := Lib.hid (add_poke (x := w1.drew.heap.size) n tm sz asks f16 hr hB nx18 (by first | exact Nat.ne_of_lt hgx | exact Nat.ne_of_gt hgx))
        refine hK.out _ _ ?_
        clear hK K
        try simp only [Act.put, List.setIfInBounds_toArray, List.set_cons_zero, List.set_cons_succ]
        refine wpTill_done (by kernel_rfl) ?_ _
        go_wp2_with fail
        go_meet
        case rel => exact ⟨_, ⟨n, tm, sz, asks, some ⟨g16, 0, none⟩, 1, cg⟩, rfl, HF.out.2.1, HF.out.1, fun g e => by cases e; exact n16, nx18, HF.out.2.2, HN.out, ⟨htm1, htm2⟩, ⟨hsz1, hsz2⟩⟩
      refine AllTill.cons (o := ⟨some 38, _, _, _, _, _⟩) rfl (fun K hK => ?_) ?_
      · refine step_fresh (enc := encG) (E := 77) rfl [true] (encG true).toArray rfl (by simp) (by kernel_rfl) ?_
        intro W16 v16 g16 f16 hg16 hx16
        have n16 : w1.heap.size ≤ g16 := Nat.le_trans hB.size hg16
        have hgx := Nat.lt_of_lt_of_le (heap_lt hr) hg16
        have hr := below_keeps hx16 hr (heap_lt hr)
        have hB := below_call hB hB.size hx16
        obtain ⟨cg, hcg, hcg2⟩ : ∃ cg, v16 = .slice (some ⟨g16, 0, none⟩) 1 cg ∧ True := by
          rcases f16 with ⟨_, h0, _⟩ | ⟨g', ys, h0, h1, _, _⟩
          · cases h0
          · cases h0
            exact ⟨_, h1, trivial⟩
        subst hcg
        refine hK.out _ _ (by exact HSof.out _ hB) (fun hHeld => ?_)
        clear hK K
        try simp only [Act.put, List.setIfInBounds_toArray, List.set_cons_zero, List.set_cons_succ]
        refine wpTill_ready (rs := [6]) (by kernel_rfl) (by simp) ?_
        refine AllTill.cons (o := ⟨some 28, _, _, _, _, _⟩) rfl (fun K hK => ?_) AllTill.nil
        go_simp
        go_at_call 15
        refine (within_any sk 0 2 _ (by omega) (by omega) (by omega) (by omega) (by omega)).mono ?_
        rw [HWK.out]
        rintro e w' ⟨rfl, hw⟩
        obtain rfl := hw
        go_wp2_with fail
        refine hK.out _ _ (by exact HSof.out _ hB) (fun hHeld => ?_)
        clear hK K
        try simp only [Act.put, List.setIfInBounds_toArray, List.set_cons_zero, List.set_cons_succ]
        refine wpTill_take0 (i := 7) (oi := ⟨some 29, _, _, _, _, _⟩) (v := ?_) rfl (by kernel_rfl) (fun _ _ _ h => h) (Or.inl ⟨by rfl, ?_⟩) (fun _ => hHeld) ?_
        rotate_left
        · intro w hSw
          (try dsimp only at hSw)
          go_simp
          try with_reducible rfl
        try simp only [Act.put, List.setIfInBounds_toArray, List.set_cons_zero, List.set_cons_succ]
        refine wpTill_take0 (i := 8) (oi := ⟨some 30, _, _, _, _, _⟩) (v := ?_) rfl (by kernel_rfl) (fun _ _ _ h => h) (Or.inl ⟨by rfl, ?_⟩) (fun _ => hHeld) ?_
        rotate_left
        · intro w hSw
          (try dsimp only at hSw)
          go_simp
          try with_reducible rfl
        try simp only [Act.put, List.setIfInBounds_toArray, List.set_cons_zero, List.set_cons_succ]
        refine wpTill_take0 (i := 17) (oi := ⟨some 39, _, _, _, _, _⟩) (v := ?_) rfl (by kernel_rfl) (fun _ _ _ h => h) (Or.inl ⟨by rfl, ?_⟩) (fun _ => hHeld) ?_
        rotate_left
        · intro w hSw
          (try dsimp only at hSw)
          go_simp
          try with_reducible rfl
        try simp only [Act.put, List.setIfInBounds_toArray, List.set_cons_zero, List.set_cons_succ]
        refine wpTill_ready (rs := [19]) (by kernel_rfl) (by simp) ?_
        refine AllTill.consD (o := ⟨none, _, _, _, _, _⟩) rfl (by kernel_rfl) (fun K hK => ?_) AllTill.nil
        rw [if_pos (by kernel_rfl)]
        refine wp_store_row 32 (.tmp 19) (.tmp 39) rfl (w1.drew.heap.size) _ rfl rfl 32 #[.int .u64 0, .int .i64 0, .int .i64 0, .bool false, .slice none 0 0] (by exact hr) (by rw [sizeQ]; rfl) rfl (by simp [Value.oneCell']) ?_
        have HF := Lib.hid (add_poke (x := w1.drew.heap.size) n tm sz asks f16 hr hB nx18 (by first | exact Nat.ne_of_lt hgx | exact Nat.ne_of_gt hgx))
        refine hK.out _ _ ?_
        clear hK K
        try simp only [Act.put, List.setIfInBounds_toArray, List.set_cons_zero, List.set_cons_succ]
        refine wpTill_done (by kernel_rfl) ?_ _
        go_wp2_with fail
        go_meet
        case rel => exact ⟨_, ⟨n, tm, sz, asks, some ⟨g16, 0, none⟩, 1, cg⟩, rfl, HF.out.2.1, HF.out.1, fun g e => by cases e; exact n16, nx18, HF.out.2.2, HN.out, ⟨htm1, htm2⟩, ⟨hsz1, hsz2⟩⟩
      exact AllTill.nil
    exact AllTill.nil
  case rest =>
  obtain ⟨x, p, rfl, hkx, hpf, hpn2, hxw, hbx, hp1, hp2, hp3⟩ := hcut
  have H3 := Lib.hid (H1.out.later hbx)
  have HKZ3 := Lib.hid (below_keeps hbx HKZ.out (heap_lt HKZ.out))
  have HKX := Lib.hid hkx
  have HXF := Lib.hid (show ¬ fp x from fun q => by have := H1.out.p.lt.2 x q; omega)
  have HXF2 := Lib.hid (show ¬ fq x from fun q => by have := H1.out.d.lt.2 x q; omega)
  have hzx : ¬ z = x := by have := heap_lt HKZ.out; omega
  have hxz : ¬ x = z := fun e => hzx e.symm
  have HWX := Lib.hid (show W.heap.size ≤ x by have := H1.out.below.size; omega)
  by_cases hk8 : kd = 8
  · subst hk8
    have HPB := Lib.hid (show (⟨pn, pt, pz, pa, none, 0, 0⟩ : Pk).n < 18446744073709551616 ∧ I64 (⟨pn, pt, pz, pa, none, 0, 0⟩ : Pk).t ∧ I64 (⟨pn, pt, pz, pa, none, 0, 0⟩ : Pk).z from ⟨hpn, ⟨hpt1, hpt2⟩, ⟨hpz1, hpz2⟩⟩)
    have hkz := HKZ3.out
    have z7 := (cell_at hkz 7).trans (by rfl : _ = some (Value.int .u64 pn))
    have z8 := (cell_at hkz 8).trans (by rfl : _ = some (Value.int .i64 pt))
    have z9 := (cell_at hkz 9).trans (by rfl : _ = some (Value.int .i64 pz))
    have z10 := (cell_at hkz 10).trans (by rfl : _ = some (Value.bool pa))
    have z11 := (cell_at hkz 11).trans (by rfl : _ = some (Value.slice pfa pfl pfc))
    have z0 := (cell_at hkz 0).trans (by rfl : _ = some (Value.int .i64 8))
    simp only [encQ] at hkx
    have x0 := (cell_at hkx 0).trans (by rfl : _ = some (Value.int .u64 p.n))
    have x1 := (cell_at hkx 1).trans (by rfl : _ = some (Value.int .i64 p.t))
    have x2 := (cell_at hkx 2).trans (by rfl : _ = some (Value.int .i64 p.z))
    have x3 := (cell_at hkx 3).trans (by rfl : _ = some (Value.bool p.a))
    have x4 := (cell_at hkx 4).trans (by rfl : _ = some (Value.slice p.fa p.fl p.fc))
    have g0 := free_at hkx 0
    have g1 := free_at hkx 1
    have g2 := free_at hkx 2
    have g3 := free_at hkx 3
    have g4 := free_at hkx 4
    have HKX0 := Lib.hid hkx
    clear hkx hkz hpf hpn2 hbx HKX c1 HSof
    generalize wc = w2 at *
    go_upto_region 4 with fail
    go_cut [] (fun wx => Upd (fun j => j = x) w2 wx ∧ wx.heap[x]? = some (.cells #[.int .u64 pn, .int .i64 pt, .int .i64 pz, .bool pa, .slice pfa pfl pfc] 32 (0, 0)))
    case first =>
      go_wp2_with fail
      go_meet
      case rel => exact ⟨(((((Upd.refl (fun j => j = x) w2).setCell ⟨x, 0, none⟩ (.inl rfl) _).setCell ⟨x, 1, none⟩ (.inl rfl) _).setCell ⟨x, 2, none⟩ (.inl rfl) _).setCell ⟨x, 3, none⟩ (.inl rfl) _).setCell ⟨x, 4, none⟩ (.inl rfl) _, (set_at (set_at (set_at (set_at (set_at HKX0.out 0 _) 1 _) 2 _) 3 _) 4 _).trans rfl⟩
    case rest =>
    obtain ⟨hu4, hkx4⟩ := hcut
    have g4 := free_at hkx4 4
    have x4 := (cell_at hkx4 4).trans (by rfl : _ = some (Value.slice pfa pfl pfc))
    have HU4 := Lib.hid (And.intro hu4 hkx4)
    clear hu4 hkx4 x0 x1 x2 x3 g0 g1 g2 g3 z7 z8 z9 z10 z11 z0
    generalize wc = w4 at *
    go_upto_region 5 with fail
    go_cut [] (fun wx => Upd (fun j => j = x) w4 wx ∧ wx.heap[x]? = some (.cells #[.int .u64 pn, .int .i64 pt, .int .i64 pz, .bool pa, .slice none 0 0] 32 (0, 0)))
    case first =>
      go_wp2_with fail
      go_meet
      case rel => exact ⟨(Upd.refl (fun j => j = x) w4).setCell ⟨x, 4, none⟩ (.inl rfl) _, (set_at HU4.out.2 4 _).trans rfl⟩
    case rest =>
    obtain ⟨hu5, hkx5⟩ := hcut
    have h5 := (H3.out.poke HU4.out.1 HWX.out HXF.out HXF2.out).poke hu5 HWX.out HXF.out HXF2.out
    have H3 := Lib.hid h5
    have HKX := Lib.hid (show wc.heap[x]? = some (.cells (encQ ⟨pn, pt, pz, pa, none, 0, 0⟩).toArray 32 (0, 0)) from hkx5)
    have HPF := Lib.hid (nofr wc ⟨pn, pt, pz, pa, none, 0, 0⟩ rfl rfl rfl).1
    have HPO := Lib.hid (show ∀ g, (⟨pn, pt, pz, pa, none, 0, 0⟩ : Pk).fo = some g → ¬ fp g from fun g e => by cases e)
    clear hu5 hkx5 h5 HU4 HKX0 x4 g4
    generalize wc = w3 at *
    have hae := sim_addErr HSIM.out (p := (⟨pn, pt, pz, pa, none, 0, 0⟩ : Pk)) (q := (⟨pn, pt, pz, pa, none, 0, 0⟩ : Pk)) rfl
    obtain ⟨er, her⟩ : ∃ er, s.addErr (⟨pn, pt, pz, pa, none, 0, 0⟩ : Pk) = er := ⟨_, rfl⟩
    have HAE := Lib.hid (show s.addErr (⟨pn, pt, pz, pa, none, 0, 0⟩ : Pk) = er ∧ d.addErr (⟨pn, pt, pz, pa, none, 0, 0⟩ : Pk) = er from ⟨her, by rw [← hae]; exact her⟩)
    clear hae her
    have HSx := Lib.hid (show ∀ W : World, W.heap[x]? = some (.cells (encQ (⟨pn, pt, pz, pa, none, 0, 0⟩ : Pk)).toArray 32 (0, 0)) → W.cell? ⟨x, 0, none⟩ = some (.int .u64 (⟨pn, pt, pz, pa, none, 0, 0⟩ : Pk).n) ∧ W.cell? ⟨x, 1, none⟩ = some (.int .i64 (⟨pn, pt, pz, pa, none, 0, 0⟩ : Pk).t) ∧ W.cell? ⟨x, 2, none⟩ = some (.int .i64 (⟨pn, pt, pz, pa, none, 0, 0⟩ : Pk).z) ∧ W.cell? ⟨x, 3, none⟩ = some (.bool (⟨pn, pt, pz, pa, none, 0, 0⟩ : Pk).a) ∧ W.cell? ⟨x, 4, none⟩ = some (.slice (⟨pn, pt, pz, pa, none, 0, 0⟩ : Pk).fa (⟨pn, pt, pz, pa, none, 0, 0⟩ : Pk).fl (⟨pn, pt, pz, pa, none, 0, 0⟩ : Pk).fc) from fun W h => ⟨(cell_at h 0).trans rfl, (cell_at h 1).trans rfl, (cell_at h 2).trans rfl, (cell_at h 3).trans rfl, (cell_at h 4).trans rfl⟩)
    go_upto_region 6 with fail
    go_wp2_with fail
    refine wp_region_till (S := fun w' => w'.cell? ⟨x, 0, none⟩ = some (.int .u64 (⟨pn, pt, pz, pa, none, 0, 0⟩ : Pk).n) ∧ w'.cell? ⟨x, 1, none⟩ = some (.int .i64 (⟨pn, pt, pz, pa, none, 0, 0⟩ : Pk).t) ∧ w'.cell? ⟨x, 2, none⟩ = some (.int .i64 (⟨pn, pt, pz, pa, none, 0, 0⟩ : Pk).z) ∧ w'.cell? ⟨x, 3, none⟩ = some (.bool (⟨pn, pt, pz, pa, none, 0, 0⟩ : Pk).a) ∧ w'.cell? ⟨x, 4, none⟩ = some (.slice (⟨pn, pt, pz, pa, none, 0, 0⟩ : Pk).fa (⟨pn, pt, pz, pa, none, 0, 0⟩ : Pk).fl (⟨pn, pt, pz, pa, none, 0, 0⟩ : Pk).fc)) [] (by kernel_rfl) (by exact HSx.out _ HKX.out) (fun hHeld => ?_)
    refine wpTill_take0 (i := 0) (oi := ⟨some 46, _, _, _, _, _⟩) (v := ?_) rfl (by kernel_rfl) (fun _ _ _ h => h) (Or.inl ⟨by rfl, ?_⟩) (fun _ => hHeld) ?_
    rotate_left
    · intro w hSw
      (try dsimp only at hSw)
      go_simp
      try with_reducible rfl
    try simp only [Act.put, List.setIfInBounds_toArray, List.set_cons_zero, List.set_cons_succ]
    refine wpTill_take (i := 1) (oi := ⟨some 47, _, _, _, _, _⟩) (v := ?_) rfl (by kernel_rfl) (fun _ _ _ h => h) (Or.inl ⟨by rfl, ?_⟩) (by exact hHeld) ?_
    rotate_left
    · intro w hSw
      (try dsimp only at hSw)
      go_simp
      try with_reducible rfl
    try simp only [Act.put, List.setIfInBounds_toArray, List.set_cons_zero, List.set_cons_succ]
    refine wpTill_take0 (i := 3) (oi := ⟨some 49, _, _, _, _, _⟩) (v := ?_) rfl (by kernel_rfl) (fun _ _ _ h => h) (Or.inl ⟨by rfl, ?_⟩) (fun _ => hHeld) ?_
    rotate_left
    · intro w hSw
      (try dsimp only at hSw)
      go_simp
      try with_reducible rfl
    try simp only [Act.put, List.setIfInBounds_toArray, List.set_cons_zero, List.set_cons_succ]
    refine wpTill_take (i := 4) (oi := ⟨some 50, _, _, _, _, _⟩) (v := ?_) rfl (by kernel_rfl) (fun _ _ _ h => h) (Or.inl ⟨by rfl, ?_⟩) (by exact hHeld) ?_
    rotate_left
    · intro w hSw
      (try dsimp only at hSw)
      go_simp
      try with_reducible rfl
    try simp only [Act.put, List.setIfInBounds_toArray, List.set_cons_zero, List.set_cons_succ]
    refine wpTill_ready (rs := [2]) (by kernel_rfl) (by simp) ?_
    refine AllTill.cons (o := ⟨some 48, _, _, _, _, _⟩) rfl (fun K hK => ?_) AllTill.nil
    go_simp
    go_at_call 8
    refine (ladd_any b s fp (⟨pn, pt, pz, pa, none, 0, 0⟩ : Pk) _ (by exact (H3.out.later (Below.refl _ _).drew).p) HPB.out.2.1 HPB.out.2.2 HPB.out.1 (by exact HPF.out.below (Below.refl _ _).drew) HPO.out).mono ?_
    rw [HAE.out.1]
    rintro e W2 ⟨rfl, q, hq1, hq2, hq3, hq4, hq5, hm⟩
    obtain ⟨fp2, h2⟩ := (H3.out.later (Below.refl _ _).drew).goP hm
    have hx2 := hm.upd.keeps (show w3.drew.heap[x]? = _ from HKX.out) HXF.out
    have HT2 := Lib.hid h2
    have HQ := Lib.hid (core_of_eq hq1 hq2 hq3 hq4 hq5)
    clear hm h2 hq1 hq2 hq3 hq4 hq5
    go_wp2_with fail
    refine hK.out _ _ (by exact HSx.out _ hx2) (fun hHeld => ?_)
    clear hK K
    try simp only [Act.put, List.setIfInBounds_toArray, List.set_cons_zero, List.set_cons_succ]
    refine wpTill_ready (rs := [5]) (by kernel_rfl) (by simp) ?_
    refine AllTill.cons (o := ⟨some 51, _, _, _, _, _⟩) rfl (fun K hK => ?_) AllTill.nil
    go_simp
    go_at_call 33
    refine (dadd_any c d fq (⟨pn, pt, pz, pa, none, 0, 0⟩ : Pk) _ (by exact HT2.out.d) HPB.out.2.1 HPB.out.2.2 HPB.out.1).mono ?_
    rw [HAE.out.2]
    rintro e W5 ⟨rfl, hm⟩
    obtain ⟨fq5, h5⟩ := HT2.out.goD hm
    have hx5 := hm.upd.keeps hx2 HXF2.out
    have HT5 := Lib.hid h5
    clear hm h5
    go_wp2_with fail
    refine hK.out _ _ (by exact HSx.out _ hx5) (fun hHeld => ?_)
    clear hK K
    try simp only [Act.put, List.setIfInBounds_toArray, List.set_cons_zero, List.set_cons_succ]
    refine wpTill_take0 (i := 6) (oi := ⟨some 52, _, _, _, _, _⟩) (v := ?_) rfl (by kernel_rfl) (fun _ _ _ h => h) (Or.inl ⟨by rfl, ?_⟩) (fun _ => hHeld) ?_
    rotate_left
    · intro w hSw
      (try dsimp only at hSw)
      go_simp
      try with_reducible rfl
    try simp only [Act.put, List.setIfInBounds_toArray, List.set_cons_zero, List.set_cons_succ]
    refine wpTill_done (by kernel_rfl) ?_ _
    go_wp2_with fail
    refine (same_two b c _ _ fp2 fq5 _ (by exact HT5.out) (sim_addS HSIM.out HQ.out)).mono ?_
    rintro e w7 ⟨rfl, h7⟩
    have H7 := Lib.hid h7
    clear h7
    go_wp2_with fail
    go_ret
    exact ⟨rfl, _, _, _, _, H7.out, sim_addS HSIM.out HQ.out⟩
  · have z0 := (cell_at HKZ3.out 0).trans (by rfl : _ = some (Value.int .i64 kd))
    have HPB := Lib.hid (And.intro hp1 (And.intro hp2 hp3))
    have HPF := Lib.hid hpf
    have HPO := Lib.hid (show ∀ g, p.fo = some g → ¬ fp g from fun g e q => by have h1 := hpn2 g e; have := H1.out.p.lt.2 g q; omega)
    clear hkx hpf hpn2 hbx hp1 hp2 hp3 c1 HSof
    generalize wc = w3 at *
    have hae := sim_addErr HSIM.out (p := p) (q := p) rfl
    obtain ⟨er, her⟩ : ∃ er, s.addErr p = er := ⟨_, rfl⟩
    have HAE := Lib.hid (show s.addErr p = er ∧ d.addErr p = er from ⟨her, by rw [← hae]; exact her⟩)
    clear hae her
    have HSx := Lib.hid (show ∀ W : World, W.heap[x]? = some (.cells (encQ p).toArray 32 (0, 0)) → W.cell? ⟨x, 0, none⟩ = some (.int .u64 p.n) ∧ W.cell? ⟨x, 1, none⟩ = some (.int .i64 p.t) ∧ W.cell? ⟨x, 2, none⟩ = some (.int .i64 p.z) ∧ W.cell? ⟨x, 3, none⟩ = some (.bool p.a) ∧ W.cell? ⟨x, 4, none⟩ = some (.slice p.fa p.fl p.fc) from fun W h => ⟨(cell_at h 0).trans rfl, (cell_at h 1).trans rfl, (cell_at h 2).trans rfl, (cell_at h 3).trans rfl, (cell_at h 4).trans rfl⟩)
    go_upto_region 6 with fail
    go_wp2_with fail
    refine wp_region_till (S := fun w' => w'.cell? ⟨x, 0, none⟩ = some (.int .u64 p.n) ∧ w'.cell? ⟨x, 1, none⟩ = some (.int .i64 p.t) ∧ w'.cell? ⟨x, 2, none⟩ = some (.int .i64 p.z) ∧ w'.cell? ⟨x, 3, none⟩ = some (.bool p.a) ∧ w'.cell? ⟨x, 4, none⟩ = some (.slice p.fa p.fl p.fc)) [] (by kernel_rfl) (by exact HSx.out _ HKX.out) (fun hHeld => ?_)
    refine wpTill_take0 (i := 0) (oi := ⟨some 46, _, _, _, _, _⟩) (v := ?_) rfl (by kernel_rfl) (fun _ _ _ h => h) (Or.inl ⟨by rfl, ?_⟩) (fun _ => hHeld) ?_
    rotate_left
    · intro w hSw
      (try dsimp only at hSw)
      go_simp
      try with_reducible rfl
    try simp only [Act.put, List.setIfInBounds_toArray, List.set_cons_zero, List.set_cons_succ]
    refine wpTill_take (i := 1) (oi := ⟨some 47, _, _, _, _, _⟩) (v := ?_) rfl (by kernel_rfl) (fun _ _ _ h => h) (Or.inl ⟨by rfl, ?_⟩) (by exact hHeld) ?_
    rotate_left
    · intro w hSw
      (try dsimp only at hSw)
      go_simp
      try with_reducible rfl
    try simp only [Act.put, List.setIfInBounds_toArray, List.set_cons_zero, List.set_cons_succ]
    refine wpTill_take0 (i := 3) (oi := ⟨some 49, _, _, _, _, _⟩) (v := ?_) rfl (by kernel_rfl) (fun _ _ _ h => h) (Or.inl ⟨by rfl, ?_⟩) (fun _ => hHeld) ?_
    rotate_left
    · intro w hSw
      (try dsimp only at hSw)
      go_simp
      try with_reducible rfl
    try simp only [Act.put, List.setIfInBounds_toArray, List.set_cons_zero, List.set_cons_succ]
    refine wpTill_take (i := 4) (oi := ⟨some 50, _, _, _, _, _⟩) (v := ?_) rfl (by kernel_rfl) (fun _ _ _ h => h) (Or.inl ⟨by rfl, ?_⟩) (by exact hHeld) ?_
    rotate_left
    · intro w hSw
      (try dsimp only at hSw)
      go_simp
      try with_reducible rfl
    try simp only [Act.put, List.setIfInBounds_toArray, List.set_cons_zero, List.set_cons_succ]
    refine wpTill_ready (rs := [2]) (by kernel_rfl) (by simp) ?_
    refine AllTill.cons (o := ⟨some 48, _, _, _, _, _⟩) rfl (fun K hK => ?_) AllTill.nil
    go_simp
    go_at_call 8
    refine (ladd_any b s fp p _ (by exact (H3.out.later (Below.refl _ _).drew).p) HPB.out.2.1 HPB.out.2.2 HPB.out.1 (by exact HPF.out.below (Below.refl _ _).drew) HPO.out).mono ?_
    rw [HAE.out.1]
    rintro e W2 ⟨rfl, q, hq1, hq2, hq3, hq4, hq5, hm⟩
    obtain ⟨fp2, h2⟩ := (H3.out.later (Below.refl _ _).drew).goP hm
    have hx2 := hm.upd.keeps (show w3.drew.heap[x]? = _ from HKX.out) HXF.out
    have HT2 := Lib.hid h2
    have HQ := Lib.hid (core_of_eq hq1 hq2 hq3 hq4 hq5)
    clear hm h2 hq1 hq2 hq3 hq4 hq5
    go_wp2_with fail
    refine hK.out _ _ (by exact HSx.out _ hx2) (fun hHeld => ?_)
    clear hK K
    try simp only [Act.put, List.setIfInBounds_toArray, List.set_cons_zero, List.set_cons_succ]
    refine wpTill_ready (rs := [5]) (by kernel_rfl) (by simp) ?_
    refine AllTill.cons (o := ⟨some 51, _, _, _, _, _⟩) rfl (fun K hK => ?_) AllTill.nil
    go_simp
    go_at_call 33
    refine (dadd_any c d fq p _ (by exact HT2.out.d) HPB.out.2.1 HPB.out.2.2 HPB.out.1).mono ?_
    rw [HAE.out.2]
    rintro e W5 ⟨rfl, hm⟩
    obtain ⟨fq5, h5⟩ := HT2.out.goD hm
    have hx5 := hm.upd.keeps hx2 HXF2.out
    have HT5 := Lib.hid h5
    clear hm h5
    go_wp2_with fail
    refine hK.out _ _ (by exact HSx.out _ hx5) (fun hHeld => ?_)
    clear hK K
    try simp only [Act.put, List.setIfInBounds_toArray, List.set_cons_zero, List.set_cons_succ]
    refine wpTill_take0 (i := 6) (oi := ⟨some 52, _, _, _, _, _⟩) (v := ?_) rfl (by kernel_rfl) (fun _ _ _ h => h) (Or.inl ⟨by rfl, ?_⟩) (fun _ => hHeld) ?_
    rotate_left
    · intro w hSw
      (try dsimp only at hSw)
      go_simp
      try with_reducible rfl
    try simp only [Act.put, List.setIfInBounds_toArray, List.set_cons_zero, List.set_cons_succ]
    refine wpTill_done (by kernel_rfl) ?_ _
    go_wp2_with fail
    refine (same_two b c _ _ fp2 fq5 _ (by exact HT5.out) (sim_addS HSIM.out HQ.out)).mono ?_
    rintro e w7 ⟨rfl, h7⟩
    have H7 := Lib.hid h7
    clear h7
    go_wp2_with fail
    go_ret
    exact ⟨rfl, _, _, _, _, H7.out, sim_addS HSIM.out HQ.out⟩
end Go.Proofs.Ytacfbgnbjdckiaa

/- DERIVED. Walk of narthexlaw11's SentPlays (printed by mksqplays.py). -/
namespace Go.Proofs.Ytacfbgnbjdckiaa
open Go.RowKit

theorem do_any {W : World} (b c : Nat) (s d : LS) (fp fq : Nat → Prop) (kd sk sz : Int) (asks : Bool) (tm : Int) (fr : Nat) (vrows : Value) (pn : Nat) (pt pz : Int) (pa : Bool) (pfa : Option Addr) (pfl pfc : Nat) (vr : Value) (w : World) (h : Two W w b c s d fp fq) (hs : s.core = d.core)
    (ha : AkSOk W W.heap.size ⟨kd, sk, sz, asks, tm, fr, vrows, pn, pt, pz, pa, pfa, pfl, pfc, vr⟩) :
    Calls Try.prog 18 #[.pointer (some ⟨b, 0, none⟩), .pointer (some ⟨c, 0, none⟩), .agg #[.int .i64 kd, .int .i64 sk, .int .i64 sz, .bool asks, .int .i64 tm, .int .u64 fr, vrows, .int .u64 pn, .int .i64 pt, .int .i64 pz, .bool pa, .slice pfa pfl pfc, vr]] w (DoPost W b c) := by
  by_cases h5 : kd = 5
  · subst h5
    exact do_ack5 b c s d fp fq sk sz asks tm fr vrows pn pt pz pa pfa pfl pfc vr w h hs ha
  by_cases h6 : kd = 6
  · subst h6
    exact do_ack6 b c s d fp fq sk sz asks tm fr vrows pn pt pz pa pfa pfl pfc vr w h hs ha
  by_cases h7 : kd = 7
  · subst h7
    exact do_take b c s d fp fq sk sz asks tm fr vrows pn pt pz pa pfa pfl pfc vr w h hs ha
  by_cases h9 : kd = 9
  · subst h9
    exact do_ack9 b c s d fp fq sk sz asks tm fr vrows pn pt pz pa pfa pfl pfc vr w h hs ha
  by_cases h10 : kd = 10
  · subst h10
    exact do_clear b c s d fp fq sk sz asks tm fr vrows pn pt pz pa pfa pfl pfc vr w h hs ha
  exact do_add b c s d fp fq kd sk sz asks tm fr vrows pn pt pz pa pfa pfl pfc vr w h hs ha h5 h6 h7 h9 h10
theorem AkS.cells {w : World} {B : Nat} {oa : Option Addr} {n cap : Nat} {L : List AkS} (h : Vw encAS w B (.slice oa n cap) L) {i : Nat} {a : AkS} (ha : L[i]? = some a) :
    ∃ b off, oa = some ⟨b, off, none⟩ ∧ b < B ∧ ∀ j v, (encAS a)[j]? = some v → w.cell? ⟨b, off + i * 13 + j, none⟩ = some v := by
  obtain ⟨b, off, h1, h2, h3⟩ := h.el encAS_len ha
  refine ⟨b, off, h1, h2, fun j v hj => ?_⟩
  have hl : j < 13 := by rw [List.getElem?_eq_some_iff] at hj; exact hj.1
  rw [h3 j hl]
  exact hj
theorem two_new {W w1 : World} {b : Nat} {s : LS} (hm : LMine kP W w1 b s) :
    ∃ fp fq, Two W (w1.alloc (.cells #[.slice none 0 0, .int .u64 0, .int .u64 0, .bool false] 53)) b w1.heap.size s LS.zero fp fq := by
  obtain ⟨fp, h1, h2, h3⟩ := hm
  refine ⟨fp, LFp kD w1.heap.size none [], h1.below ((Below.refl _ _).alloc (Nat.le_refl _) _), ⟨_, none, ⟨alloc_at _ _, SlG.nil _, fun k => (by cases k), .inr rfl, LS.zero_ok⟩, rfl⟩, h2, ?_, ?_, h3.alloc h3.size _⟩
  · rintro k (rfl | hk | ⟨_, hp, _⟩)
    · exact h3.size
    · cases hk
    · cases hp
  · rintro k hk (rfl | hq | ⟨_, hp, _⟩)
    · have := h1.lt.2 _ hk
      omega
    · cases hq
    · cases hp
set_option maxRecDepth 100000 in
set_option maxHeartbeats 4000000 in
theorem plays_walk (vl : Value) (L : List AkS) (w : World) (hl : Vw encAS w w.heap.size vl L) (hL : ∀ a ∈ L, AkSOk w w.heap.size a) :
    Calls Try.prog 6 #[vl] w fun e w' => e = .returned (.bool true) ∧ Below w.heap.size w w' := by
  obtain ⟨ol, capl, rfl, hcl1, hcl2⟩ := hl.shape
  have HVL := Lib.hid hl
  have HLO := Lib.hid hL
  clear hl hL
  generalize hn : L.length = len at *
  have HN := Lib.hid hn
  clear hn
  go_enter Try.func6, Try.ntmps6
  go_wp2_with fail
  refine (lnew_any _).mono ?_
  rintro e w1 ⟨b, rfl, hm⟩
  have HT0 := Lib.hid (two_new hm)
  obtain ⟨c, hc⟩ : ∃ c, w1.heap.size = c := ⟨_, rfl⟩
  rw [hc] at HT0
  clear hm
  go_wp2_with fail
  go_loopw [5] (fun i wr => ∃ (j : Nat) (s d : LS) (fp fq : Nat → Prop), i = .int .i64 j ∧ j ≤ 100 ∧ Two w wr b c s d fp fq ∧ s.core = d.core) (fun i _ => 100 - (intOf i).toNat)
  case atStart =>
    obtain ⟨fp, fq, h0⟩ := HT0.out
    exact ⟨0, _, _, fp, fq, rfl, by omega, h0, rfl⟩
  case round =>
    obtain ⟨j, s, d, fp, fq, rfl, hj, ht, hs⟩ := hrel
    have HT := Lib.hid ht
    have HS := Lib.hid hs
    clear ht hs HT0
    by_cases hlt : j < len
    · by_cases hlt2 : j < 100
      · obtain ⟨a, hak⟩ : ∃ a, L[j]? = some a := ⟨_, List.getElem?_eq_getElem (by rw [HN.out]; exact hlt)⟩
        obtain ⟨g, ofg, rfl, hgb, hcs⟩ := AkS.cells HVL.out hak
        have hok := HLO.out a (List.mem_of_getElem? hak)
        have HCS := Lib.hid (fun jj v hj => cell_keep HT.out.below hgb (hcs jj v hj))
        clear hak hcs
        obtain ⟨kd, sk, sz, asks, tm, fr, vrows, pn, pt, pz, pa, pfa, pfl, pfc, vr⟩ := a
        have HOK := Lib.hid hok
        clear hok
        simp only [encAS] at HCS
        have q0 : wr.cell? ⟨g, ofg + j * 13, none⟩ = some (.int .i64 kd) := HCS.out 0 _ rfl
        have q1 : wr.cell? ⟨g, ofg + j * 13 + 1, none⟩ = some (.int .i64 sk) := HCS.out 1 _ rfl
        have q2 : wr.cell? ⟨g, ofg + j * 13 + 2, none⟩ = some (.int .i64 sz) := HCS.out 2 _ rfl
        have q3 : wr.cell? ⟨g, ofg + j * 13 + 3, none⟩ = some (.bool asks) := HCS.out 3 _ rfl
        have q4 : wr.cell? ⟨g, ofg + j * 13 + 4, none⟩ = some (.int .i64 tm) := HCS.out 4 _ rfl
        have q5 : wr.cell? ⟨g, ofg + j * 13 + 5, none⟩ = some (.int .u64 fr) := HCS.out 5 _ rfl
        have q6 : wr.cell? ⟨g, ofg + j * 13 + 6, none⟩ = some (vrows) := HCS.out 6 _ rfl
        have q7 : wr.cell? ⟨g, ofg + j * 13 + 7, none⟩ = some (.int .u64 pn) := HCS.out 7 _ rfl
        have q8 : wr.cell? ⟨g, ofg + j * 13 + 8, none⟩ = some (.int .i64 pt) := HCS.out 8 _ rfl
        have q9 : wr.cell? ⟨g, ofg + j * 13 + 9, none⟩ = some (.int .i64 pz) := HCS.out 9 _ rfl
        have q10 : wr.cell? ⟨g, ofg + j * 13 + 10, none⟩ = some (.bool pa) := HCS.out 10 _ rfl
        have q11 : wr.cell? ⟨g, ofg + j * 13 + 11, none⟩ = some (.slice pfa pfl pfc) := HCS.out 11 _ rfl
        have q12 : wr.cell? ⟨g, ofg + j * 13 + 12, none⟩ = some (vr) := HCS.out 12 _ rfl
        go_wp2_with fail
        refine (do_any b c s d fp fq kd sk sz asks tm fr vrows pn pt pz pa pfa pfl pfc vr _ (by exact HT.out) HS.out HOK.out).mono ?_
        rintro e w5 ⟨he, s', d', fp', fq', h5, hs5⟩
        subst he
        have H5 := Lib.hid h5
        have HS5 := Lib.hid hs5
        clear h5 hs5 q0 q1 q2 q3 q4 q5 q6 q7 q8 q9 q10 q11 q12
        go_wp2_with fail
        go_roundw
        case rel => exact ⟨j + 1, s', d', fp', fq', by go_num, by omega, H5.out, HS5.out⟩
        case measure => simp [intOf]; omega
      · go_wp2_with fail
        refine (known_any _).mono ?_
        rintro x w5 ⟨rfl, hb⟩
        have HB := Lib.hid (below_call HT.out.below HT.out.below.size hb)
        clear hb
        go_wp2_with fail
        go_ret
        exact ⟨rfl, HB.out⟩
    · go_wp2_with fail
      refine (known_any _).mono ?_
      rintro x w5 ⟨rfl, hb⟩
      have HB := Lib.hid (below_call HT.out.below HT.out.below.size hb)
      clear hb
      go_wp2_with fail
      go_ret
      exact ⟨rfl, HB.out⟩
end Go.Proofs.Ytacfbgnbjdckiaa
