/- DERIVED. What do answers: Take (printed by mksqdo2.py). -/
import Derived.Test.YtacfbgnbjdckiaaQ10
namespace Go.Proofs.Ytacfbgnbjdckiaa
open Go.RowKit

theorem sizeQ : (Try.prog.info? 32).map (·.size) = some 5 := by kernel_rfl
theorem Two.goP2 {W w w' : World} {b c : Nat} {s d s' : LS} {fp fq : Nat → Prop} (h : Two W w b c s d fp fq) (m : LM kP w w' fp b s') : ∃ fp', Two W w' b c s' d fp' fq ∧ ∀ g, fp' g → fp g ∨ w.heap.size ≤ g := by
  obtain ⟨fp', h1, h2, h3⟩ := m
  have hs := h.below.size
  refine ⟨fp', ⟨h1, h.d.keeps h2 (fun k hk q => h.ap k q hk), fun k hk => ?_, h.nd, fun k hk q => ?_, Upd.belowOf h.below h2 (fun k hk q => by have := h.np k q; omega)⟩, h3⟩
  · rcases h3 k hk with x | x
    · exact h.np k x
    · omega
  · rcases h3 k hk with x | x
    · exact h.ap k x q
    · have := h.d.lt.2 k q
      omega
theorem Two.goD2 {W w w' : World} {b c : Nat} {s d d' : LS} {fp fq : Nat → Prop} (h : Two W w b c s d fp fq) (m : LM kD w w' fq c d') : ∃ fq', Two W w' b c s d' fp fq' ∧ ∀ g, fq' g → fq g ∨ w.heap.size ≤ g := by
  obtain ⟨fq', h1, h2, h3⟩ := m
  have hs := h.below.size
  refine ⟨fq', ⟨h.p.keeps h2 (fun k hk q => h.ap k hk q), h1, h.np, fun k hk => ?_, fun k hk q => ?_, Upd.belowOf h.below h2 (fun k hk q => by have := h.nd k q; omega)⟩, h3⟩
  · rcases h3 k hk with x | x
    · exact h.nd k x
    · omega
  · rcases h3 k q with x | x
    · exact h.ap k hk x
    · have := h.p.lt.2 k hk
      omega
theorem Two.poke {W w w' : World} {b c x : Nat} {s d : LS} {fp fq : Nat → Prop} (h : Two W w b c s d fp fq) (hu : Upd (fun j => j = x) w w') (hx : W.heap.size ≤ x) (h1 : ¬ fp x) (h2 : ¬ fq x) : Two W w' b c s d fp fq :=
  ⟨h.p.keeps hu (fun k hk e => h1 (by rw [← e]; exact hk)), h.d.keeps hu (fun k hk e => h2 (by rw [← e]; exact hk)), h.np, h.nd, h.ap, Upd.belowOf h.below hu (fun k hk e => by omega)⟩
theorem setRow_updx (w : World) (x : Nat) (cs : Array Value) : Upd (fun j => j = x) w (w.setRow x cs) := ⟨rfl, rfl, rfl, by simp, fun k _ hn => setRow_other w x k cs hn⟩
theorem take_poke {W w : World} {b c x z : Nat} {s d : LS} {fp fq : Nat → Prop} {cs old cz : Array Value} {tx tz : TypeId} (h : Two W w b c s d fp fq) (hz : w.heap[z]? = some (.cells cz tz (0, 0))) (hx : w.heap[x]? = some (.cells old tx (0, 0))) (hw : W.heap.size ≤ x) (h1 : ¬ fp x) (h2 : ¬ fq x) (hzx : z ≠ x) :
    Two W (w.setRow x cs) b c s d fp fq ∧ (w.setRow x cs).heap[x]? = some (.cells cs tx (0, 0)) ∧ (w.setRow x cs).heap[z]? = some (.cells cz tz (0, 0)) :=
  ⟨h.poke (setRow_updx w x cs) hw h1 h2, setRow_heap _ _ _ _ _ _ hx, (setRow_other _ _ _ _ hzx).trans hz⟩
theorem one_pk (w : World) (p : Pk) : Vw encQ (w.alloc (.cells #[.int .u64 p.n, .int .i64 p.t, .int .i64 p.z, .bool p.a, .slice p.fa p.fl p.fc] 32)) (w.heap.size + 1) (.slice (some ⟨w.heap.size, 0, none⟩) 1 1) [p] := by
  refine ⟨_, 1, rfl, Nat.le_refl _, by omega, .inr ⟨w.heap.size, 0, rfl, by omega, fun j u hu => ?_⟩⟩
  rw [Nat.zero_add, cell_at (alloc_at _ _)]
  simpa [flat, encQ] using hu
theorem sim_getP {s d : LS} (h : s.core = d.core) (n : Nat) : ((s.takeP n).getD (⟨0, 0, 0, false, none, 0, 0⟩ : Pk)).core = ((d.takeP n).getD (⟨0, 0, 0, false, none, 0, 0⟩ : Pk)).core ∧ (s.takeP n).isSome = (d.takeP n).isSome := by
  have e := sim_takeP h n
  constructor
  · rw [← Option.getD_map Pk.core, ← Option.getD_map Pk.core, e]
  · have := congrArg Option.isSome e
    simpa using this
set_option maxRecDepth 100000 in
set_option maxHeartbeats 4000000 in
theorem do_take {W : World} (b c : Nat) (s d : LS) (fp fq : Nat → Prop) (sk sz : Int) (asks : Bool) (tm : Int) (fr : Nat) (vrows : Value) (pn : Nat) (pt pz : Int) (pa : Bool) (pfa : Option Addr) (pfl pfc : Nat) (vr : Value) (w : World) (h : Two W w b c s d fp fq) (hs : s.core = d.core)
    (ha : AkSOk W W.heap.size ⟨7, sk, sz, asks, tm, fr, vrows, pn, pt, pz, pa, pfa, pfl, pfc, vr⟩) :
    Calls Try.prog 18 #[.pointer (some ⟨b, 0, none⟩), .pointer (some ⟨c, 0, none⟩), .agg #[.int .i64 7, .int .i64 sk, .int .i64 sz, .bool asks, .int .i64 tm, .int .u64 fr, vrows, .int .u64 pn, .int .i64 pt, .int .i64 pz, .bool pa, .slice pfa pfl pfc, vr]] w (DoPost W b c) := by
  have H := Lib.hid h
  have HSIM := Lib.hid hs
  have HA := Lib.hid (ha.below h.below)
  have hfr := ha.fr
  have hW := h.below.size
  obtain ⟨nx, hnx⟩ : ∃ nx, s.nx = nx := ⟨_, rfl⟩
  have hnx2 : d.nx = nx := by rw [← (LS.core_eq hs).2.1]; exact hnx
  have hnxb : nx ≤ 4611686018427387904 := by rw [← hnx]; exact h.p.ok.nx
  have HNX := Lib.hid (And.intro hnx hnx2)
  obtain ⟨hsk1, hsk2⟩ := ha.sk
  obtain ⟨hsz1, hsz2⟩ := ha.sz
  obtain ⟨htm1, htm2⟩ := ha.tm
  obtain ⟨hpt1, hpt2⟩ := ha.pt
  obtain ⟨hpz1, hpz2⟩ := ha.pz
  have hpn := ha.pn
  simp only at hfr hsk1 hsk2 hsz1 hsz2 htm1 htm2 hpt1 hpt2 hpz1 hpz2 hpn
  obtain ⟨rs0, hvr, hrs0⟩ := ha.rg
  obtain ⟨xs, hxs, hxsb⟩ := ha.rows
  have HVR := Lib.hid (And.intro (hvr.below h.below) hrs0)
  have HXS := Lib.hid (And.intro (hxs.below h.below) hxsb)
  clear h hs ha hnx hnx2 hvr hrs0 hxs hxsb
  go_enter Try.func18, Try.ntmps18
  go_upto_region 0 with fail
  go_cut [5, 6] (fun v f wx => ∃ z, v = .pointer (some ⟨z, 0, none⟩) ∧ f = .bool false ∧ w.heap.size ≤ z ∧ Below w.heap.size w wx ∧ wx.heap[z]? = some (.cells #[.int .i64 7, .int .i64 sk, .int .i64 sz, .bool asks, .int .i64 tm, .int .u64 fr, vrows, .int .u64 pn, .int .i64 pt, .int .i64 pz, .bool pa, .slice pfa pfl pfc, vr] 56 (0, 0)))
  case first =>
    go_wp2_with fail
    go_meet
    case rel => exact ⟨_, rfl, rfl, Nat.le_refl _, (Below.refl _ _).alloc (Nat.le_refl _) _, alloc_at _ _⟩
  case rest =>
  obtain ⟨z, rfl, rfl, hz, hb, hkz⟩ := hcut
  have H1 := Lib.hid (H.out.later hb)
  have HKZ := Lib.hid hkz
  have HZ := Lib.hid (show ¬ fp z ∧ ¬ fq z from ⟨fun q => by have := H.out.p.lt.2 z q; omega, fun q => by have := H.out.d.lt.2 z q; omega⟩)
  have HB := Lib.hid hb
  have hzl := heap_lt hkz
  have hbs := hb.size
  have hcz : ¬ c = z := by have := H.out.d.lt.2 c H.out.d.lt.1; omega
  have hzc : ¬ z = c := fun e => hcz e.symm
  have z0 := (cell_at hkz 0).trans (by rfl : _ = some (Value.int .i64 7))
  have c1 : wc.cell? ⟨c, 1, none⟩ = some (.int .u64 nx) := by rw [H1.out.d.cells.1, HNX.out.2]
  clear hb hkz
  generalize wc = w1 at *
  obtain ⟨n2, hn2, hn2p⟩ : ∃ n2 : Nat, (nx : Int) + 1 = (n2 : Int) ∧ nx + 1 = n2 := ⟨nx + 1, by omega, rfl⟩
  have hwn2 : IntKind.u64.wrap (n2 : Int) = n2 := IntWalk.u64_in _ (by omega)
  have hn20 : ¬ (n2 : Int) = 0 := by omega
  have hn20n : ¬ n2 = 0 := by omega
  obtain ⟨f, hf, hfb⟩ : ∃ f : Nat, (fr : Int).tmod (n2 : Int) = (f : Int) ∧ f < n2 := ⟨fr % n2, by rw [Int.tmod_eq_emod_of_nonneg (by omega)]; omega, Nat.mod_lt _ (by omega)⟩
  have hwf : IntKind.u64.wrap (f : Int) = f := IntWalk.u64_in _ (by omega)
  obtain ⟨hgp, hgi⟩ := sim_getP HSIM.out f
  have HGP := Lib.hid (And.intro hgp hgi)
  have HNXS := Lib.hid (show (some (Value.int .u64 (d.nx : Int)) : Option Value) = some (Value.int .u64 (nx : Int)) by rw [HNX.out.2])
  clear hgp hgi
  have z5 := (cell_at HKZ.out 5).trans (by rfl : _ = some (Value.int .u64 fr))
  go_upto_region 24 with fail
  go_cut [15, 16] (fun v i wx => ∃ (x : Nat) (fp' : Nat → Prop), v = .pointer (some ⟨x, 0, none⟩) ∧ i = .bool (s.takeP f).isSome ∧ Two W wx b c (s.takeS f) d fp' fq ∧ wx.heap[x]? = some (.cells (encQ ((s.takeP f).getD (⟨0, 0, 0, false, none, 0, 0⟩ : Pk))).toArray 32 (0, 0)) ∧ wx.heap[z]? = some (.cells #[.int .i64 7, .int .i64 sk, .int .i64 sz, .bool asks, .int .i64 tm, .int .u64 fr, vrows, .int .u64 pn, .int .i64 pt, .int .i64 pz, .bool pa, .slice pfa pfl pfc, vr] 56 (0, 0)) ∧ w1.heap.size ≤ x)
  case first =>
    generalize hP : ((s.takeP f).getD (⟨0, 0, 0, false, none, 0, 0⟩ : Pk)) = P at *
    go_wp2_with fail
    have z5 : w1.drew.cell? ⟨z, 5, none⟩ = _ := z5
    have c1 : w1.drew.cell? ⟨c, 1, none⟩ = _ := c1
    refine wp_region_till (S := fun w' => w'.cell? ⟨z, 5, none⟩ = some (.int .u64 fr) ∧ w'.cell? ⟨c, 1, none⟩ = some (.int .u64 nx)) [14] (by kernel_rfl) (by exact ⟨z5, c1⟩) (fun hHeld => ?_)
    refine wpTill_take0 (i := 0) (oi := ⟨some 143, _, _, _, _, _⟩) (v := ?_) rfl (by kernel_rfl) (fun _ _ _ h => h) (Or.inl ⟨by rfl, ?_⟩) (fun _ => hHeld) ?_
    rotate_left
    · intro w hSw
      (try dsimp only at hSw)
      go_simp
      try with_reducible rfl
    try simp only [Act.put, List.setIfInBounds_toArray, List.set_cons_zero, List.set_cons_succ]
    refine wpTill_take0 (i := 1) (oi := ⟨some 144, _, _, _, _, _⟩) (v := ?_) rfl (by kernel_rfl) (fun _ _ _ h => h) (Or.inl ⟨by rfl, ?_⟩) (fun _ => hHeld) ?_
    rotate_left
    · intro w hSw
      (try dsimp only at hSw)
      go_simp
      try with_reducible rfl
    try simp only [Act.put, List.setIfInBounds_toArray, List.set_cons_zero, List.set_cons_succ]
    refine wpTill_take (i := 2) (oi := ⟨some 145, _, _, _, _, _⟩) (v := ?_) rfl (by kernel_rfl) (fun _ _ _ h => h) (Or.inl ⟨by rfl, ?_⟩) (by exact hHeld) ?_
    rotate_left
    · intro w hSw
      (try dsimp only at hSw)
      go_simp
      try with_reducible rfl
    try simp only [Act.put, List.setIfInBounds_toArray, List.set_cons_zero, List.set_cons_succ]
    refine wpTill_take0 (i := 3) (oi := ⟨some 146, _, _, _, _, _⟩) (v := ?_) rfl (by kernel_rfl) (fun _ _ _ h => h) (Or.inl ⟨by rfl, ?_⟩) (fun _ => hHeld) ?_
    rotate_left
    · intro w hSw
      (try dsimp only at hSw)
      go_simp
      try with_reducible rfl
    try simp only [Act.put, List.setIfInBounds_toArray, List.set_cons_zero, List.set_cons_succ]
    refine wpTill_take0 (i := 4) (oi := ⟨some 147, _, _, _, _, _⟩) (v := ?_) rfl (by kernel_rfl) (fun _ _ _ h => h) (Or.inl ⟨by rfl, ?_⟩) (fun _ => hHeld) ?_
    rotate_left
    · intro w hSw
      (try dsimp only at hSw)
      go_simp
      try with_reducible rfl
    try simp only [Act.put, List.setIfInBounds_toArray, List.set_cons_zero, List.set_cons_succ]
    refine wpTill_take0 (i := 5) (oi := ⟨some 148, _, _, _, _, _⟩) (v := ?_) rfl (by kernel_rfl) (fun _ _ _ h => h) (Or.inl ⟨by rfl, ?_⟩) (fun _ => hHeld) ?_
    rotate_left
    · intro w hSw
      (try dsimp only at hSw)
      go_simp
      try with_reducible rfl
    try simp only [Act.put, List.setIfInBounds_toArray, List.set_cons_zero, List.set_cons_succ]
    refine wpTill_take (i := 6) (oi := ⟨some 149, _, _, _, _, _⟩) (v := ?_) rfl (by kernel_rfl) (fun _ _ _ h => h) (Or.inl ⟨by rfl, ?_⟩) (by exact hHeld) ?_
    rotate_left
    · intro w hSw
      (try dsimp only at hSw)
      go_simp
      try with_reducible rfl
    try simp only [Act.put, List.setIfInBounds_toArray, List.set_cons_zero, List.set_cons_succ]
    refine wpTill_take0 (i := 7) (oi := ⟨some 150, _, _, _, _, _⟩) (v := ?_) rfl (by kernel_rfl) (fun _ _ _ h => h) (Or.inl ⟨by rfl, ?_⟩) (fun _ => hHeld) ?_
    rotate_left
    · intro w hSw
      (try dsimp only at hSw)
      go_simp
      try with_reducible rfl
    try simp only [Act.put, List.setIfInBounds_toArray, List.set_cons_zero, List.set_cons_succ]
    refine wpTill_take0 (i := 8) (oi := ⟨some 151, _, _, _, _, _⟩) (v := ?_) rfl (by kernel_rfl) (fun _ _ _ h => h) (Or.inl ⟨by rfl, ?_⟩) (fun _ => hHeld) ?_
    rotate_left
    · intro w hSw
      (try dsimp only at hSw)
      go_simp
      try with_reducible rfl
    try simp only [Act.put, List.setIfInBounds_toArray, List.set_cons_zero, List.set_cons_succ]
    refine wpTill_ready (rs := [9, 13]) (by kernel_rfl) (by simp) ?_
    refine AllTill.cons (o := ⟨some 152, _, _, _, _, _⟩) rfl (fun K hK => ?_) ?_
    · go_simp
      go_at_call 31
      refine (ltake_any b s fp f _ (by exact (H1.out.later (Below.refl _ _).drew).p)).mono ?_
      rintro e W9 ⟨he, hm⟩
      subst he
      obtain ⟨f9, h9, h9b⟩ := (H1.out.later (Below.refl _ _).drew).goP2 hm
      have hz9 := hm.upd.keeps (show w1.drew.heap[z]? = _ from HKZ.out) HZ.out.1
      have hsz9 : w1.heap.size ≤ W9.heap.size := hm.upd.size
      have HT9 := Lib.hid h9
      have HZ9 := Lib.hid hz9
      clear hm
      go_wp2_with fail
      refine hK.out _ _ (by exact ⟨(cell_at hz9 5).trans rfl, h9.d.cells.1.trans HNXS.out⟩) (fun hHeld => ?_)
      clear hK K
      try simp only [Act.put, List.setIfInBounds_toArray, List.set_cons_zero, List.set_cons_succ]
      refine wpTill_take0 (i := 10) (oi := ⟨some 142, _, _, _, _, _⟩) (v := ?_) rfl (by kernel_rfl) (fun _ _ _ h => h) (Or.inl ⟨by rfl, ?_⟩) (fun _ => hHeld) ?_
      rotate_left
      · intro w hSw
        (try dsimp only at hSw)
        go_simp
        try with_reducible rfl
      try simp only [Act.put, List.setIfInBounds_toArray, List.set_cons_zero, List.set_cons_succ]
      refine wpTill_take0 (i := 11) (oi := ⟨some 153, _, _, _, _, _⟩) (v := ?_) rfl (by kernel_rfl) (fun _ _ _ h => h) (Or.inl ⟨by rfl, ?_⟩) (fun _ => hHeld) ?_
      rotate_left
      · intro w hSw
        (try dsimp only at hSw)
        go_simp
        try with_reducible rfl
      try simp only [Act.put, List.setIfInBounds_toArray, List.set_cons_zero, List.set_cons_succ]
      refine wpTill_take0 (i := 12) (oi := ⟨some 154, _, _, _, _, _⟩) (v := ?_) rfl (by kernel_rfl) (fun _ _ _ h => h) (Or.inl ⟨by rfl, ?_⟩) (fun _ => hHeld) ?_
      rotate_left
      · intro w hSw
        (try dsimp only at hSw)
        go_simp
        try with_reducible rfl
      try simp only [Act.put, List.setIfInBounds_toArray, List.set_cons_zero, List.set_cons_succ]
      refine wpTill_ready (rs := [13]) (by kernel_rfl) (by simp) ?_
      refine AllTill.cons (o := ⟨some 15, _, _, _, _, _⟩) rfl (fun K hK => ?_) AllTill.nil
      go_simp
      have HTA := Lib.hid (HT9.out.later ((Below.refl _ _).alloc (Nat.le_refl _) (.cells #[.int .u64 0, .int .i64 0, .int .i64 0, .bool false, .slice none 0 0] 32)))
      have HZA := Lib.hid (alloc_old (o := (.cells #[.int .u64 0, .int .i64 0, .int .i64 0, .bool false, .slice none 0 0] 32)) HZ9.out)
      have HXA := Lib.hid (alloc_at W9 (.cells #[.int .u64 0, .int .i64 0, .int .i64 0, .bool false, .slice none 0 0] 32))
      refine hK.out _ _ (by exact ⟨(cell_at HZA.out 5).trans rfl, HTA.out.d.cells.1.trans HNXS.out⟩) (fun hHeld => ?_)
      clear hK K
      try simp only [Act.put, List.setIfInBounds_toArray, List.set_cons_zero, List.set_cons_succ]
      refine wpTill_ready (rs := [14]) (by kernel_rfl) (by simp) ?_
      refine AllTill.consD (o := ⟨none, _, _, _, _, _⟩) rfl (by kernel_rfl) (fun K hK => ?_) AllTill.nil
      rw [if_pos (by kernel_rfl)]
      refine wp_store_row 32 (.tmp 15) (.tmp 153) rfl W9.heap.size _ rfl rfl 32 #[.int .u64 0, .int .i64 0, .int .i64 0, .bool false, .slice none 0 0] (by exact HXA.out) (by rw [sizeQ]; rfl) rfl (by simp [encQ, Value.oneCell']) ?_
      have HF := Lib.hid (take_poke (x := W9.heap.size) (cs := (encQ P).toArray) HTA.out HZA.out HXA.out (by have := H1.out.below.size; omega) (fun q => by have := HT9.out.p.lt.2 _ q; omega) (fun q => by have := HT9.out.d.lt.2 _ q; omega) (by have := heap_lt HKZ.out; omega))
      refine hK.out _ _ ?_
      clear hK K
      try simp only [Act.put, List.setIfInBounds_toArray, List.set_cons_zero, List.set_cons_succ]
      refine wpTill_take0 (i := 15) (oi := ⟨some 16, _, _, _, _, _⟩) (v := ?_) rfl (by kernel_rfl) (fun _ _ _ h => h) (Or.inl ⟨by rfl, ?_⟩) (fun h => Bool.noConfusion (h.symm.trans (show _ = true by kernel_rfl))) ?_
      rotate_left
      · intro w hSw
        (try dsimp only at hSw)
        go_simp
        try with_reducible rfl
      try simp only [Act.put, List.setIfInBounds_toArray, List.set_cons_zero, List.set_cons_succ]
      refine wpTill_done (by kernel_rfl) ?_ _
      go_wp2_with fail
      go_meet
      case rel => exact ⟨_, _, rfl, rfl, HF.out.1, HF.out.2.1, HF.out.2.2, Nat.le_trans hsz9 (Nat.le_refl _)⟩
    refine AllTill.cons (o := ⟨some 15, _, _, _, _, _⟩) rfl (fun K hK => ?_) ?_
    · go_simp
      have HTA := Lib.hid (H1.out.later (((Below.refl _ _).drew).alloc (Nat.le_refl _) (.cells #[.int .u64 0, .int .i64 0, .int .i64 0, .bool false, .slice none 0 0] 32)))
      have HTA0 := Lib.hid (show w1.drew.heap.size = w1.heap.size from rfl)
      have HZA := Lib.hid (alloc_old (o := (.cells #[.int .u64 0, .int .i64 0, .int .i64 0, .bool false, .slice none 0 0] 32)) (show w1.drew.heap[z]? = _ from HKZ.out))
      have HXA := Lib.hid (alloc_at w1.drew (.cells #[.int .u64 0, .int .i64 0, .int .i64 0, .bool false, .slice none 0 0] 32))
      refine hK.out _ _ (by exact ⟨(cell_at HZA.out 5).trans rfl, HTA.out.d.cells.1.trans HNXS.out⟩) (fun hHeld => ?_)
      clear hK K
      try simp only [Act.put, List.setIfInBounds_toArray, List.set_cons_zero, List.set_cons_succ]
      refine wpTill_ready (rs := [9]) (by kernel_rfl) (by simp) ?_
      refine AllTill.cons (o := ⟨some 152, _, _, _, _, _⟩) rfl (fun K hK => ?_) AllTill.nil
      go_simp
      go_at_call 31
      refine (ltake_any b s fp f _ (by exact HTA.out.p)).mono ?_
      rintro e W9 ⟨he, hm⟩
      subst he
      obtain ⟨f9, h9, h9b⟩ := HTA.out.goP2 hm
      have hx9 := hm.upd.keeps HXA.out (fun q => by have h9x := H1.out.p.lt.2 _ q; exact absurd h9x (Nat.lt_irrefl _))
      have hz9 := hm.upd.keeps HZA.out HZ.out.1
      have hnx9 : ¬ f9 w1.heap.size := fun q => by
        rcases h9b _ q with q | q
        · have := H1.out.p.lt.2 _ q; omega
        · exact absurd (show w1.heap.size + 1 ≤ w1.heap.size by simpa using q) (by omega)
      have HT9 := Lib.hid h9
      have HZ9 := Lib.hid hz9
      clear hm
      go_wp2_with fail
      refine hK.out _ _ (by exact ⟨(cell_at hz9 5).trans rfl, h9.d.cells.1.trans HNXS.out⟩) (fun hHeld => ?_)
      clear hK K
      try simp only [Act.put, List.setIfInBounds_toArray, List.set_cons_zero, List.set_cons_succ]
      refine wpTill_take0 (i := 10) (oi := ⟨some 142, _, _, _, _, _⟩) (v := ?_) rfl (by kernel_rfl) (fun _ _ _ h => h) (Or.inl ⟨by rfl, ?_⟩) (fun _ => hHeld) ?_
      rotate_left
      · intro w hSw
        (try dsimp only at hSw)
        go_simp
        try with_reducible rfl
      try simp only [Act.put, List.setIfInBounds_toArray, List.set_cons_zero, List.set_cons_succ]
      refine wpTill_take0 (i := 11) (oi := ⟨some 153, _, _, _, _, _⟩) (v := ?_) rfl (by kernel_rfl) (fun _ _ _ h => h) (Or.inl ⟨by rfl, ?_⟩) (fun _ => hHeld) ?_
      rotate_left
      · intro w hSw
        (try dsimp only at hSw)
        go_simp
        try with_reducible rfl
      try simp only [Act.put, List.setIfInBounds_toArray, List.set_cons_zero, List.set_cons_succ]
      refine wpTill_take0 (i := 12) (oi := ⟨some 154, _, _, _, _, _⟩) (v := ?_) rfl (by kernel_rfl) (fun _ _ _ h => h) (Or.inl ⟨by rfl, ?_⟩) (fun _ => hHeld) ?_
      rotate_left
      · intro w hSw
        (try dsimp only at hSw)
        go_simp
        try with_reducible rfl
      try simp only [Act.put, List.setIfInBounds_toArray, List.set_cons_zero, List.set_cons_succ]
      refine wpTill_ready (rs := [14]) (by kernel_rfl) (by simp) ?_
      refine AllTill.consD (o := ⟨none, _, _, _, _, _⟩) rfl (by kernel_rfl) (fun K hK => ?_) AllTill.nil
      rw [if_pos (by kernel_rfl)]
      refine wp_store_row 32 (.tmp 15) (.tmp 153) rfl w1.heap.size _ rfl rfl 32 #[.int .u64 0, .int .i64 0, .int .i64 0, .bool false, .slice none 0 0] (by exact hx9) (by rw [sizeQ]; rfl) rfl (by simp [encQ, Value.oneCell']) ?_
      have HF := Lib.hid (take_poke (x := w1.heap.size) (cs := (encQ P).toArray) HT9.out HZ9.out hx9 (by have := H1.out.below.size; omega) (hnx9) (fun q => by have := H1.out.d.lt.2 _ q; omega) (by have := heap_lt HKZ.out; omega))
      refine hK.out _ _ ?_
      clear hK K
      try simp only [Act.put, List.setIfInBounds_toArray, List.set_cons_zero, List.set_cons_succ]
      refine wpTill_take0 (i := 15) (oi := ⟨some 16, _, _, _, _, _⟩) (v := ?_) rfl (by kernel_rfl) (fun _ _ _ h => h) (Or.inl ⟨by rfl, ?_⟩) (fun h => Bool.noConfusion (h.symm.trans (show _ = true by kernel_rfl))) ?_
      rotate_left
      · intro w hSw
        (try dsimp only at hSw)
        go_simp
        try with_reducible rfl
      try simp only [Act.put, List.setIfInBounds_toArray, List.set_cons_zero, List.set_cons_succ]
      refine wpTill_done (by kernel_rfl) ?_ _
      go_wp2_with fail
      go_meet
      case rel => exact ⟨_, _, rfl, rfl, HF.out.1, HF.out.2.1, HF.out.2.2, Nat.le_refl _⟩
    exact AllTill.nil
  case rest =>
  obtain ⟨x, fp2, rfl, rfl, h2, hkx, hkz2, hxw⟩ := hcut
  have H2 := Lib.hid h2
  have HKX := Lib.hid hkx
  have HKZ2 := Lib.hid hkz2
  have HXN := Lib.hid (show ¬ fq x from fun q => by have := H1.out.d.lt.2 x q; omega)
  have z5 := (cell_at hkz2 5).trans (by rfl : _ = some (Value.int .u64 fr))
  have c1 : wc.cell? ⟨c, 1, none⟩ = some (.int .u64 nx) := by rw [h2.d.cells.1, HNX.out.2]
  clear h2 hkx hkz2
  generalize wc = w2 at *
  rw [HGP.out.2]
  go_upto_region 25 with fail
  go_cut [17, 18] (fun v i wx => ∃ (y : Nat) (fq' : Nat → Prop), v = .pointer (some ⟨y, 0, none⟩) ∧ i = .bool (d.takeP f).isSome ∧ Two W wx b c (s.takeS f) (d.takeS f) fp2 fq' ∧ wx.heap[y]? = some (.cells (encQ ((d.takeP f).getD (⟨0, 0, 0, false, none, 0, 0⟩ : Pk))).toArray 32 (0, 0)) ∧ wx.heap[x]? = some (.cells (encQ ((s.takeP f).getD (⟨0, 0, 0, false, none, 0, 0⟩ : Pk))).toArray 32 (0, 0)))
  case first =>
    generalize hP : ((d.takeP f).getD (⟨0, 0, 0, false, none, 0, 0⟩ : Pk)) = P at *
    go_wp2_with fail
    have z5 : w2.drew.cell? ⟨z, 5, none⟩ = _ := z5
    have c1 : w2.drew.cell? ⟨c, 1, none⟩ = _ := c1
    refine wp_region_till (S := fun w' => w'.cell? ⟨z, 5, none⟩ = some (.int .u64 fr) ∧ w'.cell? ⟨c, 1, none⟩ = some (.int .u64 nx)) [14] (by kernel_rfl) (by exact ⟨z5, c1⟩) (fun hHeld => ?_)
    refine wpTill_take0 (i := 0) (oi := ⟨some 156, _, _, _, _, _⟩) (v := ?_) rfl (by kernel_rfl) (fun _ _ _ h => h) (Or.inl ⟨by rfl, ?_⟩) (fun _ => hHeld) ?_
    rotate_left
    · intro w hSw
      (try dsimp only at hSw)
      go_simp
      try with_reducible rfl
    try simp only [Act.put, List.setIfInBounds_toArray, List.set_cons_zero, List.set_cons_succ]
    refine wpTill_take0 (i := 1) (oi := ⟨some 157, _, _, _, _, _⟩) (v := ?_) rfl (by kernel_rfl) (fun _ _ _ h => h) (Or.inl ⟨by rfl, ?_⟩) (fun _ => hHeld) ?_
    rotate_left
    · intro w hSw
      (try dsimp only at hSw)
      go_simp
      try with_reducible rfl
    try simp only [Act.put, List.setIfInBounds_toArray, List.set_cons_zero, List.set_cons_succ]
    refine wpTill_take (i := 2) (oi := ⟨some 158, _, _, _, _, _⟩) (v := ?_) rfl (by kernel_rfl) (fun _ _ _ h => h) (Or.inl ⟨by rfl, ?_⟩) (by exact hHeld) ?_
    rotate_left
    · intro w hSw
      (try dsimp only at hSw)
      go_simp
      try with_reducible rfl
    try simp only [Act.put, List.setIfInBounds_toArray, List.set_cons_zero, List.set_cons_succ]
    refine wpTill_take0 (i := 3) (oi := ⟨some 159, _, _, _, _, _⟩) (v := ?_) rfl (by kernel_rfl) (fun _ _ _ h => h) (Or.inl ⟨by rfl, ?_⟩) (fun _ => hHeld) ?_
    rotate_left
    · intro w hSw
      (try dsimp only at hSw)
      go_simp
      try with_reducible rfl
    try simp only [Act.put, List.setIfInBounds_toArray, List.set_cons_zero, List.set_cons_succ]
    refine wpTill_take0 (i := 4) (oi := ⟨some 160, _, _, _, _, _⟩) (v := ?_) rfl (by kernel_rfl) (fun _ _ _ h => h) (Or.inl ⟨by rfl, ?_⟩) (fun _ => hHeld) ?_
    rotate_left
    · intro w hSw
      (try dsimp only at hSw)
      go_simp
      try with_reducible rfl
    try simp only [Act.put, List.setIfInBounds_toArray, List.set_cons_zero, List.set_cons_succ]
    refine wpTill_take0 (i := 5) (oi := ⟨some 161, _, _, _, _, _⟩) (v := ?_) rfl (by kernel_rfl) (fun _ _ _ h => h) (Or.inl ⟨by rfl, ?_⟩) (fun _ => hHeld) ?_
    rotate_left
    · intro w hSw
      (try dsimp only at hSw)
      go_simp
      try with_reducible rfl
    try simp only [Act.put, List.setIfInBounds_toArray, List.set_cons_zero, List.set_cons_succ]
    refine wpTill_take (i := 6) (oi := ⟨some 162, _, _, _, _, _⟩) (v := ?_) rfl (by kernel_rfl) (fun _ _ _ h => h) (Or.inl ⟨by rfl, ?_⟩) (by exact hHeld) ?_
    rotate_left
    · intro w hSw
      (try dsimp only at hSw)
      go_simp
      try with_reducible rfl
    try simp only [Act.put, List.setIfInBounds_toArray, List.set_cons_zero, List.set_cons_succ]
    refine wpTill_take0 (i := 7) (oi := ⟨some 163, _, _, _, _, _⟩) (v := ?_) rfl (by kernel_rfl) (fun _ _ _ h => h) (Or.inl ⟨by rfl, ?_⟩) (fun _ => hHeld) ?_
    rotate_left
    · intro w hSw
      (try dsimp only at hSw)
      go_simp
      try with_reducible rfl
    try simp only [Act.put, List.setIfInBounds_toArray, List.set_cons_zero, List.set_cons_succ]
    refine wpTill_take0 (i := 8) (oi := ⟨some 164, _, _, _, _, _⟩) (v := ?_) rfl (by kernel_rfl) (fun _ _ _ h => h) (Or.inl ⟨by rfl, ?_⟩) (fun _ => hHeld) ?_
    rotate_left
    · intro w hSw
      (try dsimp only at hSw)
      go_simp
      try with_reducible rfl
    try simp only [Act.put, List.setIfInBounds_toArray, List.set_cons_zero, List.set_cons_succ]
    refine wpTill_ready (rs := [9, 13]) (by kernel_rfl) (by simp) ?_
    refine AllTill.cons (o := ⟨some 165, _, _, _, _, _⟩) rfl (fun K hK => ?_) ?_
    · go_simp
      go_at_call 32
      refine (dtake_any c d fq f _ (by exact (H2.out.later (Below.refl _ _).drew).d)).mono ?_
      rintro e W9 ⟨he, hm⟩
      subst he
      obtain ⟨f9, h9, h9b⟩ := (H2.out.later (Below.refl _ _).drew).goD2 hm
      have hz9 := hm.upd.keeps (show w2.drew.heap[z]? = _ from HKZ2.out) HZ.out.2
      have hsz9 : w2.heap.size ≤ W9.heap.size := hm.upd.size
      have HE9 := Lib.hid (hm.upd.keeps (show w2.drew.heap[x]? = _ from HKX.out) HXN.out)
      have HT9 := Lib.hid h9
      have HZ9 := Lib.hid hz9
      clear hm
      go_wp2_with fail
      refine hK.out _ _ (by exact ⟨(cell_at hz9 5).trans rfl, h9.d.cells.1.trans HNXS.out⟩) (fun hHeld => ?_)
      clear hK K
      try simp only [Act.put, List.setIfInBounds_toArray, List.set_cons_zero, List.set_cons_succ]
      refine wpTill_take0 (i := 10) (oi := ⟨some 155, _, _, _, _, _⟩) (v := ?_) rfl (by kernel_rfl) (fun _ _ _ h => h) (Or.inl ⟨by rfl, ?_⟩) (fun _ => hHeld) ?_
      rotate_left
      · intro w hSw
        (try dsimp only at hSw)
        go_simp
        try with_reducible rfl
      try simp only [Act.put, List.setIfInBounds_toArray, List.set_cons_zero, List.set_cons_succ]
      refine wpTill_take0 (i := 11) (oi := ⟨some 166, _, _, _, _, _⟩) (v := ?_) rfl (by kernel_rfl) (fun _ _ _ h => h) (Or.inl ⟨by rfl, ?_⟩) (fun _ => hHeld) ?_
      rotate_left
      · intro w hSw
        (try dsimp only at hSw)
        go_simp
        try with_reducible rfl
      try simp only [Act.put, List.setIfInBounds_toArray, List.set_cons_zero, List.set_cons_succ]
      refine wpTill_take0 (i := 12) (oi := ⟨some 167, _, _, _, _, _⟩) (v := ?_) rfl (by kernel_rfl) (fun _ _ _ h => h) (Or.inl ⟨by rfl, ?_⟩) (fun _ => hHeld) ?_
      rotate_left
      · intro w hSw
        (try dsimp only at hSw)
        go_simp
        try with_reducible rfl
      try simp only [Act.put, List.setIfInBounds_toArray, List.set_cons_zero, List.set_cons_succ]
      refine wpTill_ready (rs := [13]) (by kernel_rfl) (by simp) ?_
      refine AllTill.cons (o := ⟨some 17, _, _, _, _, _⟩) rfl (fun K hK => ?_) AllTill.nil
      go_simp
      have HEA := Lib.hid (alloc_old (o := (.cells #[.int .u64 0, .int .i64 0, .int .i64 0, .bool false, .slice none 0 0] 32)) HE9.out)
      have HTA := Lib.hid (HT9.out.later ((Below.refl _ _).alloc (Nat.le_refl _) (.cells #[.int .u64 0, .int .i64 0, .int .i64 0, .bool false, .slice none 0 0] 32)))
      have HZA := Lib.hid (alloc_old (o := (.cells #[.int .u64 0, .int .i64 0, .int .i64 0, .bool false, .slice none 0 0] 32)) HZ9.out)
      have HXA := Lib.hid (alloc_at W9 (.cells #[.int .u64 0, .int .i64 0, .int .i64 0, .bool false, .slice none 0 0] 32))
      refine hK.out _ _ (by exact ⟨(cell_at HZA.out 5).trans rfl, HTA.out.d.cells.1.trans HNXS.out⟩) (fun hHeld => ?_)
      clear hK K
      try simp only [Act.put, List.setIfInBounds_toArray, List.set_cons_zero, List.set_cons_succ]
      refine wpTill_ready (rs := [14]) (by kernel_rfl) (by simp) ?_
      refine AllTill.consD (o := ⟨none, _, _, _, _, _⟩) rfl (by kernel_rfl) (fun K hK => ?_) AllTill.nil
      rw [if_pos (by kernel_rfl)]
      refine wp_store_row 32 (.tmp 17) (.tmp 166) rfl W9.heap.size _ rfl rfl 32 #[.int .u64 0, .int .i64 0, .int .i64 0, .bool false, .slice none 0 0] (by exact HXA.out) (by rw [sizeQ]; rfl) rfl (by simp [encQ, Value.oneCell']) ?_
      have HF := Lib.hid (And.intro (take_poke (x := W9.heap.size) (cs := (encQ P).toArray) HTA.out HZA.out HXA.out (by have := H2.out.below.size; omega) (fun q => by have := HT9.out.p.lt.2 _ q; omega) (fun q => by have := HT9.out.d.lt.2 _ q; omega) (by have := heap_lt HKZ2.out; omega)) ((setRow_other _ (W9.heap.size) x (encQ P).toArray (by have := heap_lt HKX.out; omega)).trans HEA.out))
      refine hK.out _ _ ?_
      clear hK K
      try simp only [Act.put, List.setIfInBounds_toArray, List.set_cons_zero, List.set_cons_succ]
      refine wpTill_take0 (i := 15) (oi := ⟨some 18, _, _, _, _, _⟩) (v := ?_) rfl (by kernel_rfl) (fun _ _ _ h => h) (Or.inl ⟨by rfl, ?_⟩) (fun h => Bool.noConfusion (h.symm.trans (show _ = true by kernel_rfl))) ?_
      rotate_left
      · intro w hSw
        (try dsimp only at hSw)
        go_simp
        try with_reducible rfl
      try simp only [Act.put, List.setIfInBounds_toArray, List.set_cons_zero, List.set_cons_succ]
      refine wpTill_done (by kernel_rfl) ?_ _
      go_wp2_with fail
      go_meet
      case rel => exact ⟨_, _, rfl, rfl, HF.out.1.1, HF.out.1.2.1, HF.out.2⟩
    refine AllTill.cons (o := ⟨some 17, _, _, _, _, _⟩) rfl (fun K hK => ?_) ?_
    · go_simp
      have HEA := Lib.hid (alloc_old (o := (.cells #[.int .u64 0, .int .i64 0, .int .i64 0, .bool false, .slice none 0 0] 32)) (show w2.drew.heap[x]? = _ from HKX.out))
      have HTA := Lib.hid (H2.out.later (((Below.refl _ _).drew).alloc (Nat.le_refl _) (.cells #[.int .u64 0, .int .i64 0, .int .i64 0, .bool false, .slice none 0 0] 32)))
      have HTA0 := Lib.hid (show w2.drew.heap.size = w2.heap.size from rfl)
      have HZA := Lib.hid (alloc_old (o := (.cells #[.int .u64 0, .int .i64 0, .int .i64 0, .bool false, .slice none 0 0] 32)) (show w2.drew.heap[z]? = _ from HKZ2.out))
      have HXA := Lib.hid (alloc_at w2.drew (.cells #[.int .u64 0, .int .i64 0, .int .i64 0, .bool false, .slice none 0 0] 32))
      refine hK.out _ _ (by exact ⟨(cell_at HZA.out 5).trans rfl, HTA.out.d.cells.1.trans HNXS.out⟩) (fun hHeld => ?_)
      clear hK K
      try simp only [Act.put, List.setIfInBounds_toArray, List.set_cons_zero, List.set_cons_succ]
      refine wpTill_ready (rs := [9]) (by kernel_rfl) (by simp) ?_
      refine AllTill.cons (o := ⟨some 165, _, _, _, _, _⟩) rfl (fun K hK => ?_) AllTill.nil
      go_simp
      go_at_call 32
      refine (dtake_any c d fq f _ (by exact HTA.out.d)).mono ?_
      rintro e W9 ⟨he, hm⟩
      subst he
      obtain ⟨f9, h9, h9b⟩ := HTA.out.goD2 hm
      have hx9 := hm.upd.keeps HXA.out (fun q => by have h9x := H2.out.d.lt.2 _ q; exact absurd h9x (Nat.lt_irrefl _))
      have hz9 := hm.upd.keeps HZA.out HZ.out.2
      have hnx9 : ¬ f9 w2.heap.size := fun q => by
        rcases h9b _ q with q | q
        · have := H2.out.d.lt.2 _ q; omega
        · exact absurd (show w2.heap.size + 1 ≤ w2.heap.size by simpa using q) (by omega)
      have HE9 := Lib.hid (hm.upd.keeps HEA.out HXN.out)
      have HT9 := Lib.hid h9
      have HZ9 := Lib.hid hz9
      clear hm
      go_wp2_with fail
      refine hK.out _ _ (by exact ⟨(cell_at hz9 5).trans rfl, h9.d.cells.1.trans HNXS.out⟩) (fun hHeld => ?_)
      clear hK K
      try simp only [Act.put, List.setIfInBounds_toArray, List.set_cons_zero, List.set_cons_succ]
      refine wpTill_take0 (i := 10) (oi := ⟨some 155, _, _, _, _, _⟩) (v := ?_) rfl (by kernel_rfl) (fun _ _ _ h => h) (Or.inl ⟨by rfl, ?_⟩) (fun _ => hHeld) ?_
      rotate_left
      · intro w hSw
        (try dsimp only at hSw)
        go_simp
        try with_reducible rfl
      try simp only [Act.put, List.setIfInBounds_toArray, List.set_cons_zero, List.set_cons_succ]
      refine wpTill_take0 (i := 11) (oi := ⟨some 166, _, _, _, _, _⟩) (v := ?_) rfl (by kernel_rfl) (fun _ _ _ h => h) (Or.inl ⟨by rfl, ?_⟩) (fun _ => hHeld) ?_
      rotate_left
      · intro w hSw
        (try dsimp only at hSw)
        go_simp
        try with_reducible rfl
      try simp only [Act.put, List.setIfInBounds_toArray, List.set_cons_zero, List.set_cons_succ]
      refine wpTill_take0 (i := 12) (oi := ⟨some 167, _, _, _, _, _⟩) (v := ?_) rfl (by kernel_rfl) (fun _ _ _ h => h) (Or.inl ⟨by rfl, ?_⟩) (fun _ => hHeld) ?_
      rotate_left
      · intro w hSw
        (try dsimp only at hSw)
        go_simp
        try with_reducible rfl
      try simp only [Act.put, List.setIfInBounds_toArray, List.set_cons_zero, List.set_cons_succ]
      refine wpTill_ready (rs := [14]) (by kernel_rfl) (by simp) ?_
      refine AllTill.consD (o := ⟨none, _, _, _, _, _⟩) rfl (by kernel_rfl) (fun K hK => ?_) AllTill.nil
      rw [if_pos (by kernel_rfl)]
      refine wp_store_row 32 (.tmp 17) (.tmp 166) rfl w2.heap.size _ rfl rfl 32 #[.int .u64 0, .int .i64 0, .int .i64 0, .bool false, .slice none 0 0] (by exact hx9) (by rw [sizeQ]; rfl) rfl (by simp [encQ, Value.oneCell']) ?_
      have HF := Lib.hid (And.intro (take_poke (x := w2.heap.size) (cs := (encQ P).toArray) HT9.out HZ9.out hx9 (by have := H2.out.below.size; omega) (fun q => by have := H2.out.p.lt.2 _ q; omega) (hnx9) (by have := heap_lt HKZ2.out; omega)) ((setRow_other _ (w2.heap.size) x (encQ P).toArray (by have := heap_lt HKX.out; omega)).trans HE9.out))
      refine hK.out _ _ ?_
      clear hK K
      try simp only [Act.put, List.setIfInBounds_toArray, List.set_cons_zero, List.set_cons_succ]
      refine wpTill_take0 (i := 15) (oi := ⟨some 18, _, _, _, _, _⟩) (v := ?_) rfl (by kernel_rfl) (fun _ _ _ h => h) (Or.inl ⟨by rfl, ?_⟩) (fun h => Bool.noConfusion (h.symm.trans (show _ = true by kernel_rfl))) ?_
      rotate_left
      · intro w hSw
        (try dsimp only at hSw)
        go_simp
        try with_reducible rfl
      try simp only [Act.put, List.setIfInBounds_toArray, List.set_cons_zero, List.set_cons_succ]
      refine wpTill_done (by kernel_rfl) ?_ _
      go_wp2_with fail
      go_meet
      case rel => exact ⟨_, _, rfl, rfl, HF.out.1.1, HF.out.1.2.1, HF.out.2⟩
    exact AllTill.nil
  case rest =>
  obtain ⟨y, fq2, rfl, rfl, h3, hky, hkx3⟩ := hcut
  have H3 := Lib.hid h3
  have hgp := HGP.out.1
  generalize ((s.takeP f).getD (⟨0, 0, 0, false, none, 0, 0⟩ : Pk)) = P at *
  generalize ((d.takeP f).getD (⟨0, 0, 0, false, none, 0, 0⟩ : Pk)) = Q at *
  generalize (d.takeP f).isSome = I at *
  have HGQ := Lib.hid hgp
  simp only [encQ] at hky hkx3
  have x0 := (cell_at hkx3 0).trans (by rfl : _ = some (Value.int .u64 P.n))
  have x1 := (cell_at hkx3 1).trans (by rfl : _ = some (Value.int .i64 P.t))
  have x2 := (cell_at hkx3 2).trans (by rfl : _ = some (Value.int .i64 P.z))
  have x3 := (cell_at hkx3 3).trans (by rfl : _ = some (Value.bool P.a))
  have x4 := (cell_at hkx3 4).trans (by rfl : _ = some (Value.slice P.fa P.fl P.fc))
  have y0 := (cell_at hky 0).trans (by rfl : _ = some (Value.int .u64 Q.n))
  have y1 := (cell_at hky 1).trans (by rfl : _ = some (Value.int .i64 Q.t))
  have y2 := (cell_at hky 2).trans (by rfl : _ = some (Value.int .i64 Q.z))
  have y3 := (cell_at hky 3).trans (by rfl : _ = some (Value.bool Q.a))
  have y4 := (cell_at hky 4).trans (by rfl : _ = some (Value.slice Q.fa Q.fl Q.fc))
  have hxl := heap_lt hkx3
  have hyl := heap_lt hky
  clear h3 hky hkx3 hgp c1 z5 z0 HGP H2
  generalize wc = w3 at *
  go_wp2_with fail
  have hv1 := (one_pk w3 P).below (((Below.refl _ _).alloc (by simp) (.cells #[.int .u64 Q.n, .int .i64 Q.t, .int .i64 Q.z, .bool Q.a, .slice Q.fa Q.fl Q.fc] 32)) : Below (w3.heap.size + 1) (w3.alloc (.cells #[.int .u64 P.n, .int .i64 P.t, .int .i64 P.z, .bool P.a, .slice P.fa P.fl P.fc] 32)) _)
  have hv2 := one_pk (w3.alloc (.cells #[.int .u64 P.n, .int .i64 P.t, .int .i64 P.z, .bool P.a, .slice P.fa P.fl P.fc] 32)) Q
  rw [show (w3.alloc (.cells #[.int .u64 P.n, .int .i64 P.t, .int .i64 P.z, .bool P.a, .slice P.fa P.fl P.fc] 32)).heap.size = w3.heap.size + 1 by simp] at hv2
  refine (packs_eq _ _ [P] [Q] _ (by exact hv1) (by exact hv2) (by simp only [List.map_cons, List.map_nil]; rw [HGQ.out]) (by simp)).mono ?_
  rintro e w4 ⟨rfl, n4, rfl⟩
  have H4 := Lib.hid (H3.out.later (below_drewN (((Below.refl w3.heap.size w3).alloc (Nat.le_refl _) (.cells #[.int .u64 P.n, .int .i64 P.t, .int .i64 P.z, .bool P.a, .slice P.fa P.fl P.fc] 32)).alloc (by simp) (.cells #[.int .u64 Q.n, .int .i64 Q.t, .int .i64 Q.z, .bool Q.a, .slice Q.fa Q.fl Q.fc] 32)) n4))
  clear hv1 hv2 H3
  generalize World.drewN _ n4 = w4 at *
  go_wp2_with fail
  refine (same_two b c _ _ fp2 fq2 _ (by exact H4.out) (sim_takeS HSIM.out f)).mono ?_
  rintro e w7 ⟨rfl, h7⟩
  have H7 := Lib.hid h7
  clear h7
  go_wp2_with fail
  go_ret
  exact ⟨rfl, _, _, _, _, H7.out, sim_takeS HSIM.out f⟩
end Go.Proofs.Ytacfbgnbjdckiaa
