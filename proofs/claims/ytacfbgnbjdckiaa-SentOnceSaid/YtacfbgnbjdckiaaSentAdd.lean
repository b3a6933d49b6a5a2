/- DERIVED. Walk of sent's Add. -/
import Derived.Test.YtacfbgnbjdckiaaSentFn
namespace Go.Proofs.Ytacfbgnbjdckiaa
open Go.RowKit

theorem own_ge {n m : Nat} {og og' : Option Nat} (hn : m ≤ n) (ho : og' = og ∨ ∃ g, og' = some g ∧ n ≤ g) : og' = og ∨ ∃ g, og' = some g ∧ m ≤ g := by
  rcases ho with h | ⟨g, h1, h2⟩
  · exact .inl h
  · exact .inr ⟨g, h1, Nat.le_trans hn h2⟩
def LS.puts (s : LS) (p : Pk) : LS := { s with L := s.L ++ [p], nx := p.n + 1 }
theorem ladd_fin {w w2 W : World} {b : Nat} {s : LS} {fp : Nat → Prop} {v0 : Value} {og o8 : Option Nat} {a8 : Option Addr} {m c8 : Nat} {p : Pk} (hL : LedAt w b s v0 og) (hfp : fp = fun j => j = b ∨ og = some j) (hb2 : Below w.heap.size w w2) (hu : Upd (fun j => og = some j) w2.drew W)
    (hk : W.heap[b]? = some (.cells #[v0, .int .u64 s.nx, .int .u64 s.ak, .bool s.has] 61 (0, 0))) (f8 : SlG encQ 32 W (.slice a8 m c8) o8 (s.L ++ [p])) (ho : o8 = og ∨ ∃ g, o8 = some g ∧ w2.drew.heap.size ≤ g) (_hnb : ¬ og = some b)
    (_hm : (s.L ++ [p]).length = m) (hn : s.nx ≤ p.n) (hn2 : p.n < 4611686018427387903) (ht : -9223372036854775808 ≤ p.t ∧ p.t ≤ 9223372036854775807) (hz : 0 ≤ p.z ∧ p.z ≤ 512) (hl : s.L.length < 64) :
    LM w ((W.setCell ⟨b, 0, none⟩ (.slice a8 m c8)).setCell ⟨b, 1, none⟩ (.int .u64 ((p.n + 1 : Nat) : Int))) fp b (s.puts p) := by
  have ho8 := slg_apart f8 hk (by decide)
  have hub : Upd (fun j => j = b) W ((W.setCell ⟨b, 0, none⟩ (.slice a8 m c8)).setCell ⟨b, 1, none⟩ (.int .u64 ((p.n + 1 : Nat) : Int))) := ((Upd.refl (fun j => j = b) W).setCell ⟨b, 0, none⟩ (.inl rfl) _).setCell ⟨b, 1, none⟩ (.inl rfl) _
  have ok := hL.ok
  have hs := hb2.size
  refine ⟨fun j => j = b ∨ o8 = some j, ⟨_, o8, ⟨set_at (set_at hk 0 _) 1 _, f8.keeps hub (fun g e q => ho8 (by rw [e, q])), ⟨?_, ?_, ok.ak, ?_, ?_, ?_⟩⟩, rfl⟩, ?_, ?_⟩
  · show (s.L ++ [p]).length ≤ 64
    rw [List.length_append]
    simp
    omega
  · show p.n + 1 ≤ _
    omega
  · intro q hq
    show q.n < p.n + 1
    rcases List.mem_append.1 hq with hq | hq
    · have := ok.num q hq
      omega
    · simp at hq
      subst hq
      omega
  · intro q hq
    rcases List.mem_append.1 hq with hq | hq
    · exact ok.z q hq
    · simp at hq
      subst hq
      exact hz
  · intro q hq
    rcases List.mem_append.1 hq with hq | hq
    · exact ok.t q hq
    · simp at hq
      subst hq
      exact ht
  · rw [hfp]
    exact ((Upd.below hb2.drew).trans (hu.trans hub (H := fun j => j = b ∨ og = some j) (fun _ _ q => .inr q) (fun _ _ q => .inl q)) (H := fun j => j = b ∨ og = some j) (fun j hj q => by omega) (fun _ _ q => q))
  · intro g hg
    rw [hfp]
    rcases hg with hg | hg
    · exact .inl (.inl hg)
    · rcases ho with rfl | ⟨g', rfl, h4⟩
      · exact .inl (.inr hg)
      · cases hg
        right
        have : w2.drew.heap.size = w2.heap.size := rfl
        omega
set_option maxRecDepth 100000 in
set_option maxHeartbeats 2000000 in
theorem ladd_yes (b : Nat) (s : LS) (fp : Nat → Prop) (n : Nat) (t sz : Int) (w : World) (h : LAt w b s fp) (hn : s.nx ≤ n) (hn2 : n < 4611686018427387903) (ht : 0 ≤ t) (ht2 : t ≤ 9223372036854775807) (hs : 0 ≤ sz) (hs2 : sz ≤ 512) (hl : s.L.length < 64) :
    Calls Try.prog 8 #[.pointer (some ⟨b, 0, none⟩), .agg #[.int .u64 n, .int .i64 t, .int .i64 sz, .bool true, .slice none 0 0]] w fun e w' => e = .returned (.int .i64 0) ∧ LM w w' fp b (s.puts ⟨n, t, sz, true, .slice none 0 0⟩) := by
  obtain ⟨i0, hi0, hz0, hz1, hz2'⟩ := info_parts infoP
  obtain ⟨vL, og, hL, hfp⟩ := h
  obtain ⟨oa, cap, rfl, hc1, hc2⟩ := hL.row.shape
  have hap := hL.apart
  have hlt := hL.row.lt
  have hbl := heap_lt hL.blk
  have HL := Lib.hid hL
  have hok := hL.ok
  obtain ⟨len, hlen⟩ : ∃ len, s.L.length = len := ⟨_, rfl⟩
  obtain ⟨nx, hnx⟩ : ∃ nx, s.nx = nx := ⟨_, rfl⟩
  have HLN := Lib.hid hlen
  have HNX := Lib.hid hnx
  have HOK := Lib.hid hok
  have HL1 := Lib.hid (show (s.L ++ [(⟨n, t, sz, true, .slice none 0 0⟩ : Pk)]).length = len + 1 by rw [List.length_append, hlen]; rfl)
  have HFP := Lib.hid hfp
  have HNV := Lib.hid hn
  have HPK := Lib.hid (show n < 4611686018427387903 ∧ (-9223372036854775808 ≤ t ∧ t ≤ 9223372036854775807) ∧ (0 ≤ sz ∧ sz ≤ 512) ∧ s.L.length < 64 from ⟨hn2, ⟨by omega, ht2⟩, ⟨hs, hs2⟩, hl⟩)
  rw [hlen] at hl hc1
  rw [hnx] at hn
  clear hL hok hfp
  go_enter Try.func8, Try.ntmps8
  go_upto_region 0 with fail
  go_cut [3] (fun v wx => ∃ z, v = .pointer (some ⟨z, 0, none⟩) ∧ w.heap.size ≤ z ∧ Below w.heap.size w wx ∧ wx.heap[z]? = some (.cells #[.int .u64 n, .int .i64 t, .int .i64 sz, .bool true, .slice none 0 0] 32 (0, 0)))
  case first =>
    go_wp2_with fail
    go_meet
    case rel => exact ⟨_, rfl, Nat.le_refl _, (Below.refl _ _).alloc (Nat.le_refl _) _, alloc_at _ _⟩
  case rest =>
    obtain ⟨z, rfl, hz, hb1, hkz⟩ := hcut
    generalize wc = w1 at *
    have hblk1 := below_keeps hb1 HL.out.blk hbl
    have HB1 := Lib.hid hb1
    have HROW := Lib.hid (HL.out.row.below hb1)
    have b0 : w1.cell? ⟨b, 0, none⟩ = some (.slice oa len cap) := by rw [cell_at hblk1, ← hlen]; rfl
    have b1 : w1.cell? ⟨b, 1, none⟩ = some (.int .u64 nx) := by rw [cell_at hblk1, ← hnx]; rfl
    have z0 := (cell_at hkz 0).trans (by rfl : _ = some (Value.int .u64 n))
    have z1 := (cell_at hkz 1).trans (by rfl : _ = some (Value.int .i64 t))
    have z2 := (cell_at hkz 2).trans (by rfl : _ = some (Value.int .i64 sz))
    have z3 := (cell_at hkz 3).trans (by rfl : _ = some (Value.bool true))
    have h1 : ¬ (n : Int) < nx := by omega
    have h1n : ¬ n < nx := by omega
    have h2n : ¬ 4611686018427387903 ≤ n := by omega
    have h6n : ¬ 64 ≤ len := by omega
    have h2 : ¬ (4611686018427387903 : Int) ≤ n := by omega
    have h3 : ¬ t < 0 := by omega
    have h4 : ¬ sz < 0 := by omega
    have h5 : ¬ 512 < sz := by omega
    have h6 : ¬ (64 : Int) ≤ len := by omega
    have hnn : IntKind.u64.wrap ((n : Int) + 1) = ((n + 1 : Nat) : Int) := by rw [IntWalk.u64_in _ (by omega)]; omega
    clear hn ht hs hs2 hl
    go_upto_region 1 with fail
    go_cut [31] (fun v wx => v = .bool false ∧ ∃ q, wx = w1.drewN q)
    case first =>
      clear hblk1 hb1 hkz hlen hnx hap hlt
      go_wp2_with fail
      go_quiet (fail)
      go_wp2_with fail
      go_meet
      case rel =>
        refine ⟨?_, _, rfl⟩
        congr 1
        simp only [Bool.or_eq_false_iff, decide_eq_false_iff_not]
        exact ⟨⟨⟨by omega, by omega⟩, by omega⟩, by omega⟩
    case rest =>
      obtain ⟨rfl, q, rfl⟩ := hcut
      have hb2 : Below w.heap.size w (w1.drewN q) := below_drewN hb1 q
      have hblk1 := below_keeps hb2 HL.out.blk hbl
      have hkz : (w1.drewN q).heap[z]? = _ := hkz
      have HROW := Lib.hid (show SlG encQ 32 (w1.drewN q) (.slice oa len cap) og s.L from by rw [← hlen]; exact HL.out.row.below hb2)
      have z0 : (w1.drewN q).cell? ⟨z, 0, none⟩ = _ := z0
      have b0 : (w1.drewN q).cell? ⟨b, 0, none⟩ = _ := b0
      have z3 : (w1.drewN q).cell? ⟨z, 3, none⟩ = _ := z3
      have HB2 := Lib.hid hb2
      generalize w1.drewN q = w2 at *
      have HNB := Lib.hid (show ¬ og = some b from hap)
      have HNZ := Lib.hid (show ¬ og = some z from fun q => by have := hlt z q; omega)
      have HBLK := Lib.hid (show w2.drew.heap[b]? = some (.cells #[.slice oa s.L.length cap, .int .u64 s.nx, .int .u64 s.ak, .bool s.has] 61 (0, 0)) from hblk1)
      have HKZ := Lib.hid (show w2.drew.heap[z]? = _ from hkz)
      have HSof := Lib.hid (show ∀ W, Upd (fun j => og = some j) w2.drew W → W.cell? ⟨b, 0, none⟩ = some (.slice oa len cap) ∧ W.cell? ⟨z, 0, none⟩ = some (.int .u64 n) ∧ W.cell? ⟨z, 1, none⟩ = some (.int .i64 t) ∧ W.cell? ⟨z, 2, none⟩ = some (.int .i64 sz) ∧ W.cell? ⟨z, 3, none⟩ = some (.bool true) ∧ W.cell? ⟨z, 4, none⟩ = some (.slice none 0 0) from fun W h => by
        have hk := h.keeps HBLK.out HNB.out
        have hk2 := h.keeps HKZ.out HNZ.out
        refine ⟨by rw [cell_at hk, ← hlen]; rfl, (cell_at hk2 0).trans rfl, (cell_at hk2 1).trans rfl, (cell_at hk2 2).trans rfl, (cell_at hk2 3).trans rfl, (cell_at hk2 4).trans rfl⟩)
      clear hblk1 hb1 hkz hlen hnx hap hlt hb2 z1 z2 b1
      have hbz : ¬ b = z := by omega
      have hzb : ¬ z = b := by omega
      have HN2 := Lib.hid hn2
      obtain ⟨n1, hn1, hn1b⟩ : ∃ n1, n + 1 = n1 ∧ n1 ≤ 4611686018427387903 := ⟨_, rfl, by omega⟩
      have HN1 := Lib.hid hn1
      have hnw : IntKind.u64.wrap ((n : Int) + 1) = (n1 : Int) := by rw [IntWalk.u64_in _ (by omega)]; omega
      clear h1 h1n h2 h2n h3 h4 h5 hnn hn2 hn1 hn1b
      go_wp2_with fail
      have hu : Upd (fun j => og = some j) w2.drew w2.drew := Upd.refl _ _
      have f := HROW.out.drew
      refine wp_region_till (S := fun w' => w'.cell? ⟨b, 0, none⟩ = some (.slice oa len cap) ∧ w'.cell? ⟨z, 0, none⟩ = some (.int .u64 n) ∧ w'.cell? ⟨z, 1, none⟩ = some (.int .i64 t) ∧ w'.cell? ⟨z, 2, none⟩ = some (.int .i64 sz) ∧ w'.cell? ⟨z, 3, none⟩ = some (.bool true) ∧ w'.cell? ⟨z, 4, none⟩ = some (.slice none 0 0)) [11] (by kernel_rfl) (by exact HSof.out _ hu) (fun hHeld => ?_)
      refine wpTill_take0 (i := 0) (oi := ⟨some 40, _, _, _, _, _⟩) (v := ?_) rfl (by kernel_rfl) (fun _ _ _ h => h) (Or.inl ⟨by rfl, ?_⟩) (fun _ => hHeld) ?_
      rotate_left
      · intro w hSw
        (try dsimp only at hSw)
        go_simp
        try with_reducible rfl
      try simp only [Act.put, List.setIfInBounds_toArray, List.set_cons_zero, List.set_cons_succ]
      refine wpTill_take0 (i := 1) (oi := ⟨some 41, _, _, _, _, _⟩) (v := ?_) rfl (by kernel_rfl) (fun _ _ _ h => h) (Or.inl ⟨by rfl, ?_⟩) (fun _ => hHeld) ?_
      rotate_left
      · intro w hSw
        (try dsimp only at hSw)
        go_simp
        try with_reducible rfl
      try simp only [Act.put, List.setIfInBounds_toArray, List.set_cons_zero, List.set_cons_succ]
      refine wpTill_take0 (i := 2) (oi := ⟨some 42, _, _, _, _, _⟩) (v := ?_) rfl (by kernel_rfl) (fun _ _ _ h => h) (Or.inl ⟨by rfl, ?_⟩) (fun _ => hHeld) ?_
      rotate_left
      · intro w hSw
        (try dsimp only at hSw)
        go_simp
        try with_reducible rfl
      try simp only [Act.put, List.setIfInBounds_toArray, List.set_cons_zero, List.set_cons_succ]
      refine wpTill_take0 (i := 3) (oi := ⟨some 43, _, _, _, _, _⟩) (v := ?_) rfl (by kernel_rfl) (fun _ _ _ h => h) (Or.inl ⟨by rfl, ?_⟩) (fun _ => hHeld) ?_
      rotate_left
      · intro w hSw
        (try dsimp only at hSw)
        go_simp
        try with_reducible rfl
      try simp only [Act.put, List.setIfInBounds_toArray, List.set_cons_zero, List.set_cons_succ]
      refine wpTill_take (i := 4) (oi := ⟨some 44, _, _, _, _, _⟩) (v := ?_) rfl (by kernel_rfl) (fun _ _ _ h => h) (Or.inl ⟨by rfl, ?_⟩) (by exact hHeld) ?_
      rotate_left
      · intro w hSw
        (try dsimp only at hSw)
        go_simp
        try with_reducible rfl
      try simp only [Act.put, List.setIfInBounds_toArray, List.set_cons_zero, List.set_cons_succ]
      refine wpTill_take (i := 5) (oi := ⟨some 45, _, _, _, _, _⟩) (v := ?_) rfl (by kernel_rfl) (fun _ _ _ h => h) (Or.inl ⟨by rfl, ?_⟩) (by exact hHeld) ?_
      rotate_left
      · intro w hSw
        (try dsimp only at hSw)
        go_simp
        try with_reducible rfl
      try simp only [Act.put, List.setIfInBounds_toArray, List.set_cons_zero, List.set_cons_succ]
      refine wpTill_ready (rs := [6]) (by kernel_rfl) (by simp) ?_
      refine AllTill.cons (o := ⟨some 46, _, _, _, _, _⟩) rfl (fun K hK => ?_) AllTill.nil
      go_simp
      go_at_call 19
      refine (copied_any ⟨n, t, sz, true, .slice none 0 0⟩ _).mono ?_
      rintro e W6 ⟨rfl, hx6⟩
      have f := f.below hx6
      have hu := hu.trans (Upd.below hx6) (fun _ _ q => q) (fun j hj q => by have := hu.size; omega)
      go_wp2_with fail
      refine hK.out _ _ (by exact HSof.out _ hu) (fun hHeld => ?_)
      clear hK K
      try simp only [Act.put, List.setIfInBounds_toArray, List.set_cons_zero, List.set_cons_succ]
      refine wpTill_ready (rs := [7]) (by kernel_rfl) (by simp) ?_
      refine AllTill.cons (o := ⟨some 47, _, _, _, _, _⟩) rfl (fun K hK => ?_) AllTill.nil
      refine step_fresh (enc := encQ) (E := 32) rfl [⟨n, t, sz, true, .slice none 0 0⟩] #[.int .u64 n, .int .i64 t, .int .i64 sz, .bool true, .slice none 0 0] rfl (by simp) (by kernel_rfl) ?_
      intro W7 v7 g7 f7 hg7 hx7
      have f := f.below hx7
      have hu := hu.trans (Upd.below hx7) (fun _ _ q => q) (fun j hj q => by have := hu.size; omega)
      refine hK.out _ _ (by exact HSof.out _ hu) (fun hHeld => ?_)
      clear hK K
      try simp only [Act.put, List.setIfInBounds_toArray, List.set_cons_zero, List.set_cons_succ]
      refine wpTill_ready (rs := [8]) (by kernel_rfl) (by simp) ?_
      refine AllTill.cons (o := ⟨some 48, _, _, _, _, _⟩) rfl (fun K hK => ?_) AllTill.nil
      refine step_pushV encQ_len encQ_one Try.underlying38 hi0 hz1 hz0 zeroP rfl (.tmp 44) (.tmp 47) rfl (by exact f) (by exact f7.vw) rfl rfl (by rw [HLN.out, hz2']; simp; omega) (by rw [HLN.out]; simp; omega) ?_
      intro W8 v8 o8 f8 ho8 hu8
      have ho8 := own_ge (Nat.le_trans (Nat.le_refl _) hu.size) ho8
      have hu := hu.trans hu8 (fun _ _ q => q) (fun _ _ q => q)
      refine hK.out _ _ (by exact HSof.out _ hu) (fun hHeld => ?_)
      clear hK K
      try simp only [Act.put, List.setIfInBounds_toArray, List.set_cons_zero, List.set_cons_succ]
      refine wpTill_take0 (i := 9) (oi := ⟨some 49, _, _, _, _, _⟩) (v := ?_) rfl (by kernel_rfl) (fun _ _ _ h => h) (Or.inl ⟨by rfl, ?_⟩) (fun _ => hHeld) ?_
      rotate_left
      · intro w hSw
        (try dsimp only at hSw)
        go_simp
        try with_reducible rfl
      try simp only [Act.put, List.setIfInBounds_toArray, List.set_cons_zero, List.set_cons_succ]
      refine wpTill_take0 (i := 10) (oi := ⟨some 50, _, _, _, _, _⟩) (v := ?_) rfl (by kernel_rfl) (fun _ _ _ h => h) (Or.inl ⟨by rfl, ?_⟩) (fun _ => hHeld) ?_
      rotate_left
      · intro w hSw
        (try dsimp only at hSw)
        go_simp
        try with_reducible rfl
      try simp only [Act.put, List.setIfInBounds_toArray, List.set_cons_zero, List.set_cons_succ]
      refine wpTill_ready (rs := [11]) (by kernel_rfl) (by simp) ?_
      refine AllTill.consD (o := ⟨none, _, _, _, _, _⟩) rfl (by kernel_rfl) (fun K hK => ?_) AllTill.nil
      obtain ⟨a8, c8, e8, _, _⟩ := f8.shape
      rw [HL1.out] at e8
      subst e8
      have hk := hu.keeps HBLK.out HNB.out
      have e0 := cell_at hk 0
      have q0 := free_at hk 0
      have hk2z := hHeld.2.1
      go_simp
      refine hK.out _ _ ?_
      clear hK K
      try simp only [Act.put, List.setIfInBounds_toArray, List.set_cons_zero, List.set_cons_succ]
      refine wpTill_done (by kernel_rfl) ?_ _
      have zz := hk2z
      have y1 : W8.cell? ⟨b, 1, none⟩ = some (.int .u64 nx) := by rw [cell_at hk, ← HNX.out]; rfl
      have q1 := free_at hk 1
      have HM := Lib.hid (ladd_fin HL.out HFP.out HB2.out hu hk f8 ho8 HNB.out (by rw [HL1.out]) HNV.out HPK.out.1 HPK.out.2.1 HPK.out.2.2.1 HPK.out.2.2.2)
      clear f8 ho8 hu hk
      go_wp2_with fail
      go_ret
      exact ⟨rfl, by have e := HN1.out; subst e; exact HM.out⟩
end Go.Proofs.Ytacfbgnbjdckiaa
