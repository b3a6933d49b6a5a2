/- DERIVED. narthexlaw18's pair (63, 63). -/
import Derived.Laws.ResultCell
import Derived.Deep.RegionWith
import Derived.Deep.CutBlock
import Derived.Deep.DeepCutAuto
import Derived.Test.YtnneoeimgbemfaaGreatQH5
import Derived.Test.YtnneoeimgbemfaaGreatQH7
import Derived.Test.YtnneoeimgbemfaaGreatQH18
import Derived.Test.YtnneoeimgbemfaaGreatQH22
set_option linter.all false
namespace Go.Proofs.YtnneoeimgbemfaaGreat
open Go.RowKit

def rU0 : ST := (ST.new true (pmN 63)).allow (pmN 63)
/-- Two sets, and the boxes that lead to them. -/
def PB (W w : World) (za zb p q : Nat) (csa csb : Array Value) (t u : ST) : Prop := ∃ lab a b lab2 a2 b2, StAt w p t lab a b ∧ StAt w q u lab2 a2 b2 ∧ (∀ k, lab k ≠ .out → lab2 k = .out) ∧ (∀ k, lab k ≠ .out → W.heap.size ≤ k) ∧ (∀ k, lab2 k ≠ .out → W.heap.size ≤ k) ∧ Below W.heap.size W w ∧
  w.heap[za]? = some (.cells csa 37 (0, 0)) ∧ w.heap[zb]? = some (.cells csb 37 (0, 0)) ∧ lab za = .out ∧ lab2 za = .out ∧ lab zb = .out ∧ lab2 zb = .out ∧ W.heap.size ≤ za ∧ W.heap.size ≤ zb
theorem PB.later {W w w' : World} {za zb p q : Nat} {csa csb : Array Value} {t u : ST} (h : PB W w za zb p q csa csb t u) (hb : Below w.heap.size w w') : PB W w' za zb p q csa csb t u := by
  obtain ⟨lab, a, b, lab2, a2, b2, h1, h2, h3, h4, h5, h6, h7, h8, h9, h10, h11, h12, h13, h14⟩ := h
  exact ⟨lab, a, b, lab2, a2, b2, h1.below hb, h2.below hb, h3, h4, h5, below_call h6 h6.size hb, below_keeps hb h7 (heap_lt h7), below_keeps hb h8 (heap_lt h8), h9, h10, h11, h12, h13, h14⟩
theorem PB.swap {W w : World} {za zb p q : Nat} {csa csb : Array Value} {t u : ST} (h : PB W w za zb p q csa csb t u) : PB W w zb za q p csb csa u t := by
  obtain ⟨lab, a, b, lab2, a2, b2, h1, h2, h3, h4, h5, h6, h7, h8, h9, h10, h11, h12, h13, h14⟩ := h
  refine ⟨lab2, a2, b2, lab, a, b, h2, h1, fun k hk => ?_, h5, h4, h6, h8, h7, h12, h11, h10, h9, h14, h13⟩
  cases hq : lab k with
  | out => rfl
  | _ => exact absurd (h3 k (by rw [hq]; simp)) hk
theorem PB.bd {W w : World} {za zb p q : Nat} {csa csb : Array Value} {t u : ST} (h : PB W w za zb p q csa csb t u) : Below W.heap.size W w := by
  obtain ⟨_, _, _, _, _, _, _, _, _, _, _, h, _⟩ := h
  exact h
theorem PB.a0 {W w : World} {za zb p q : Nat} {csa csb : Array Value} {t u : ST} (h : PB W w za zb p q csa csb t u) (ha : csa[0]? = some (.pointer (some ⟨p, 0, none⟩))) : w.cell? ⟨za, 0, none⟩ = some (.pointer (some ⟨p, 0, none⟩)) := by
  obtain ⟨_, _, _, _, _, _, _, _, _, _, _, _, h, _⟩ := h
  exact (cell_at h 0).trans ha
/-- The first one, to be turned. -/
theorem PB.open {W w : World} {za zb p q : Nat} {csa csb : Array Value} {t u : ST} (h : PB W w za zb p q csa csb t u) : ∃ lab a b, StAt w p t lab a b ∧ ∀ w' t', (∃ lab', StAt w' p t' lab' a b ∧ Went (fun k => lab k ≠ .out) (fun k => lab' k ≠ .out) w w') → PB W w' za zb p q csa csb t' u := by
  obtain ⟨lab, a, b, lab2, a2, b2, h1, h2, h3, h4, h5, h6, h7, h8, h9, h10, h11, h12, h13, h14⟩ := h
  refine ⟨lab, a, b, h1, fun w' t' ⟨lab', q1, q2⟩ => ?_⟩
  obtain ⟨r1, r2⟩ := went_mine h4 h6 q2
  refine ⟨lab', a, b, lab2, a2, b2, q1, h2.keeps q2.upd (fun k hk => h3 k hk), fun k hk => ?_, r1, h5, r2, q2.upd.keeps h7 (fun q => q h9), q2.upd.keeps h8 (fun q => q h11), out_went q2 h9 (heap_lt h7), h10, out_went q2 h11 (heap_lt h8), h12, h13, h14⟩
  rcases q2.new k hk with e | e
  · exact h3 k e
  · cases hq : lab2 k with
    | out => rfl
    | _ =>
      have := h2.lt k (by rw [hq]; simp)
      have e : w.heap.size ≤ k := e
      omega
/-- Both sets are new, and each one's box. -/
theorem PB.mk {W w1 w2 w3 w4 : World} {p q : Nat} {csa csb : Array Value} {t u : ST} (h : TMine W w1 p t) (e2 : w2 = w1.alloc (.cells csa 37)) (k : TMine w2 w3 q u) (e4 : w4 = w3.alloc (.cells csb 37)) : PB W w4 w1.heap.size w3.heap.size p q csa csb t u := by
  subst e2
  have hb1 : Below w1.heap.size w1 (w1.alloc (.cells csa 37)) := (Below.refl _ _).alloc (Nat.le_refl _) _
  have hb4 : Below w3.heap.size w3 w4 := by rw [e4]; exact (Below.refl _ _).alloc (Nat.le_refl _) _
  have ha := alloc_at w1 (.cells csa 37)
  have hz : (w1.alloc (.cells csa 37)).heap.size = w1.heap.size + 1 := by simp
  have ha4 : w4.heap[w3.heap.size]? = some (.cells csb 37 (0, 0)) := by rw [e4]; exact alloc_at w3 _
  obtain ⟨lab, a, b, h1, h2, h3⟩ := h
  obtain ⟨lab2, a2, b2, k1, k2, k3⟩ := k
  have s1 := h3.size
  have s3 := k3.size
  have kb := below_call k3 s3 hb4
  have hout : ∀ (l : Nat → Lab) (n : Nat), (∀ k, l k ≠ .out → k < n ∨ False) → l n = .out := fun l n hl => by
    cases hq : l n with
    | out => rfl
    | _ =>
      rcases hl n (by rw [hq]; simp) with q | q
      · omega
      · exact q.elim
  refine ⟨lab, a, b, lab2, a2, b2, (h1.below hb1).below kb, k1.below hb4, fun j hj => ?_, h2, fun j hj => by have := k2 j hj; omega, below_call h3 s1 (below_call hb1 (by omega) kb), below_keeps kb ha (heap_lt ha), ha4, hout lab _ (fun k hk => .inl (h1.lt k hk)), ?_, ?_, hout lab2 _ (fun k hk => .inl (k1.lt k hk)), s1, by omega⟩
  · cases hq : lab2 j with
    | out => rfl
    | _ =>
      have := k2 j (by rw [hq]; simp)
      have := h1.lt j hj
      omega
  · cases hq : lab2 w1.heap.size with
    | out => rfl
    | _ =>
      have := k2 w1.heap.size (by rw [hq]; simp)
      omega
  · cases hq : lab w3.heap.size with
    | out => rfl
    | _ =>
      have := h1.lt w3.heap.size (by rw [hq]; simp)
      omega
set_option maxRecDepth 100000 in
set_option maxHeartbeats 4000000 in
theorem pair_any (w : World) :
    Calls Tryz.prog 4 #[.int .i64 63, .int .i64 63] w fun e w' => ∃ za zb p q csa csb, e = .returned (.tuple #[.pointer (some ⟨za, 0, none⟩), .pointer (some ⟨zb, 0, none⟩)]) ∧ csa[0]? = some (.pointer (some ⟨p, 0, none⟩)) ∧ csb[0]? = some (.pointer (some ⟨q, 0, none⟩)) ∧ PB w w' za zb p q csa csb rT0 rU0 := by
  go_enter Tryz.func4, Tryz.ntmps4
  go_upto_region 1 with fail
  go_cut [6, 7] (fun v6 v7 wx => ∃ (za zb p q : Nat) (csa csb : Array Value), v6 = .pointer (some ⟨za, 0, none⟩) ∧ v7 = .pointer (some ⟨zb, 0, none⟩) ∧ csa[0]? = some (.pointer (some ⟨p, 0, none⟩)) ∧ csb[0]? = some (.pointer (some ⟨q, 0, none⟩)) ∧ PB w wx za zb p q csa csb (ST.new false (pmN 63)) (ST.new true (pmN 63)))
  case first =>
    go_wp2_with fail
    refine (params_any 63 (by omega) _).mono ?_
    rintro e w1 ⟨rfl, hb1⟩
    have HB1 := Lib.hid hb1
    clear hb1
    go_wp2_with fail
    refine (tnew_any false (pmN 63) pm63_ok _).mono ?_
    rintro e w2 ⟨p, rfl, hm⟩
    have HM2 := Lib.hid (hm.first HB1.out)
    clear hm
    go_wp2_with fail
    refine (params_any 63 (by omega) _).mono ?_
    rintro e w3 ⟨rfl, hb3⟩
    have HB3 := Lib.hid hb3
    clear hb3
    go_wp2_with fail
    refine (tnew_any true (pmN 63) pm63_ok _).mono ?_
    rintro e w4 ⟨q, rfl, hm⟩
    have HM4 := Lib.hid (hm.first HB3.out)
    clear hm
    go_wp2_with fail
    go_meet
    case rel => exact ⟨_, _, p, q, _, _, rfl, rfl, by rfl, by rfl, PB.mk HM2.out rfl HM4.out rfl⟩
  case rest =>
    obtain ⟨za, zb, p, q, csa, csb, rfl, rfl, ha0, hb0, hpb⟩ := hcut
    generalize wc = w5 at *
    have HP := Lib.hid hpb
    have a0 : w5.cell? ⟨za, 0, none⟩ = some (.pointer (some ⟨p, 0, none⟩)) := by
      obtain ⟨_, _, _, _, _, _, _, _, _, _, _, _, h, _⟩ := hpb
      exact (cell_at h 0).trans (by assumption)
    have b0 : w5.cell? ⟨zb, 0, none⟩ = some (.pointer (some ⟨q, 0, none⟩)) := by
      obtain ⟨_, _, _, _, _, _, _, _, _, _, _, _, _, h, _⟩ := hpb
      exact (cell_at h 0).trans (by assumption)
    clear hpb
    go_upto_region 4 with fail
    go_cut [] (fun wx => PB w wx za zb p q csa csb rT0 (ST.new true (pmN 63)))
    case first =>
      refine wp_region_till (S := fun w' => w'.cell? ⟨za, 0, none⟩ = some (.pointer (some ⟨p, 0, none⟩))) [6] (by kernel_rfl) (by first | exact a0 | exact b0) (fun hHeld => ?_)
      refine wpTill_take0 (i := 0) (oi := ⟨some 30, _, _, _, _, _⟩) (v := ?_) rfl (by kernel_rfl) (fun _ _ _ h => h) (Or.inl ⟨by rfl, ?_⟩) (fun _ => hHeld) ?_
      rotate_left
      · intro w hSw
        (try dsimp only at hSw)
        go_simp
        try with_reducible rfl
      try simp only [Act.put, List.setIfInBounds_toArray, List.set_cons_zero, List.set_cons_succ]
      refine wpTill_take0 (i := 1) (oi := ⟨some 31, _, _, _, _, _⟩) (v := ?_) rfl (by kernel_rfl) (fun _ _ _ h => h) (Or.inl ⟨by rfl, ?_⟩) (fun _ => hHeld) ?_
      rotate_left
      · intro w hSw
        (try dsimp only at hSw)
        go_simp
        try with_reducible rfl
      try simp only [Act.put, List.setIfInBounds_toArray, List.set_cons_zero, List.set_cons_succ]
      refine wpTill_take0 (i := 2) (oi := ⟨some 32, _, _, _, _, _⟩) (v := ?_) rfl (by kernel_rfl) (fun _ _ _ h => h) (Or.inl ⟨by rfl, ?_⟩) (fun _ => hHeld) ?_
      rotate_left
      · intro w hSw
        (try dsimp only at hSw)
        go_simp
        try with_reducible rfl
      try simp only [Act.put, List.setIfInBounds_toArray, List.set_cons_zero, List.set_cons_succ]
      refine wpTill_take (i := 3) (oi := ⟨some 33, _, _, _, _, _⟩) (v := ?_) rfl (by kernel_rfl) (fun _ _ _ h => h) (Or.inl ⟨by rfl, ?_⟩) (by exact hHeld) ?_
      rotate_left
      · intro w hSw
        (try dsimp only at hSw)
        go_simp
        try with_reducible rfl
      try simp only [Act.put, List.setIfInBounds_toArray, List.set_cons_zero, List.set_cons_succ]
      refine wpTill_take0 (i := 4) (oi := ⟨some 34, _, _, _, _, _⟩) (v := ?_) rfl (by kernel_rfl) (fun _ _ _ h => h) (Or.inl ⟨by rfl, ?_⟩) (fun _ => hHeld) ?_
      rotate_left
      · intro w hSw
        (try dsimp only at hSw)
        go_simp
        try with_reducible rfl
      try simp only [Act.put, List.setIfInBounds_toArray, List.set_cons_zero, List.set_cons_succ]
      refine wpTill_ready (rs := [5]) (by kernel_rfl) (by simp) ?_
      refine AllTill.cons (o := ⟨some 35, _, _, _, _, _⟩) rfl (fun K hK => ?_) AllTill.nil
      rw [if_pos (show Region.wanted _ _ = true from rfl)]
      go_simp
      go_at_call 18
      refine (params_any 63 (by omega) _).mono ?_
      rintro e w6 ⟨rfl, hb⟩
      have HQ := Lib.hid (HP.out.later (below_call ((Below.refl _ _).drew : Below w5.heap.size w5 w5.drew) (Nat.le_refl _) hb))
      have HSw6 := Lib.hid (cell_keep hb (cell_lt1 hHeld) hHeld)
      clear hb
      go_simp
      refine hK.out _ _ (by exact HSw6.out) (fun hHeld => ?_)
      clear hK K
      try simp only [Act.put, List.setIfInBounds_toArray, List.set_cons_zero, List.set_cons_succ]
      refine wpTill_ready (rs := [6]) (by kernel_rfl) (by simp) ?_
      refine AllTill.consD (o := ⟨some 36, _, _, _, _, _⟩) rfl (by kernel_rfl) (fun K hK => ?_) AllTill.nil
      rw [if_pos (show Region.wanted _ _ = true from rfl)]
      go_simp
      go_at_call 19
      obtain ⟨lab, a, b, hs, hgo⟩ := HQ.out.open
      have HG := Lib.hid hgo
      clear hgo
      refine (tallow_any p _ lab a b (pmN 63) _ hs pm63_ok rfl rfl).mono ?_
      rintro e w7 ⟨rfl, hs7, hu7⟩
      have HR := Lib.hid (HG.out _ _ ⟨lab, hs7, hu7, fun k hk => .inl hk⟩)
      clear hs hs7 hu7 HG
      go_simp
      refine hK.out _ _ ?_
      clear hK K
      try simp only [Act.put, List.setIfInBounds_toArray, List.set_cons_zero, List.set_cons_succ]
      refine wpTill_done (by kernel_rfl) ?_ _
      go_wp2_with fail
      go_meet
      case rel => exact HR.out
    case rest =>
      generalize wc = w8 at *
      have HP8 := Lib.hid hcut
      have a8 : w8.cell? ⟨za, 0, none⟩ = some (.pointer (some ⟨p, 0, none⟩)) := by
        obtain ⟨_, _, _, _, _, _, _, _, _, _, _, _, h, _⟩ := hcut
        exact (cell_at h 0).trans (by assumption)
      have b8 : w8.cell? ⟨zb, 0, none⟩ = some (.pointer (some ⟨q, 0, none⟩)) := by
        obtain ⟨_, _, _, _, _, _, _, _, _, _, _, _, _, h, _⟩ := hcut
        exact (cell_at h 0).trans (by assumption)
      clear hcut HP a0 b0
      go_upto_region 5 with fail
      go_cut [] (fun wx => PB w wx za zb p q csa csb rT0 rU0)
      case first =>
        refine wp_region_till (S := fun w' => w'.cell? ⟨zb, 0, none⟩ = some (.pointer (some ⟨q, 0, none⟩))) [6] (by kernel_rfl) (by first | exact b8) (fun hHeld => ?_)
        refine wpTill_take0 (i := 0) (oi := ⟨some 37, _, _, _, _, _⟩) (v := ?_) rfl (by kernel_rfl) (fun _ _ _ h => h) (Or.inl ⟨by rfl, ?_⟩) (fun _ => hHeld) ?_
        rotate_left
        · intro w hSw
          (try dsimp only at hSw)
          go_simp
          try with_reducible rfl
        try simp only [Act.put, List.setIfInBounds_toArray, List.set_cons_zero, List.set_cons_succ]
        refine wpTill_take0 (i := 1) (oi := ⟨some 38, _, _, _, _, _⟩) (v := ?_) rfl (by kernel_rfl) (fun _ _ _ h => h) (Or.inl ⟨by rfl, ?_⟩) (fun _ => hHeld) ?_
        rotate_left
        · intro w hSw
          (try dsimp only at hSw)
          go_simp
          try with_reducible rfl
        try simp only [Act.put, List.setIfInBounds_toArray, List.set_cons_zero, List.set_cons_succ]
        refine wpTill_take0 (i := 2) (oi := ⟨some 39, _, _, _, _, _⟩) (v := ?_) rfl (by kernel_rfl) (fun _ _ _ h => h) (Or.inl ⟨by rfl, ?_⟩) (fun _ => hHeld) ?_
        rotate_left
        · intro w hSw
          (try dsimp only at hSw)
          go_simp
          try with_reducible rfl
        try simp only [Act.put, List.setIfInBounds_toArray, List.set_cons_zero, List.set_cons_succ]
        refine wpTill_take (i := 3) (oi := ⟨some 40, _, _, _, _, _⟩) (v := ?_) rfl (by kernel_rfl) (fun _ _ _ h => h) (Or.inl ⟨by rfl, ?_⟩) (by exact hHeld) ?_
        rotate_left
        · intro w hSw
          (try dsimp only at hSw)
          go_simp
          try with_reducible rfl
        try simp only [Act.put, List.setIfInBounds_toArray, List.set_cons_zero, List.set_cons_succ]
        refine wpTill_take0 (i := 4) (oi := ⟨some 41, _, _, _, _, _⟩) (v := ?_) rfl (by kernel_rfl) (fun _ _ _ h => h) (Or.inl ⟨by rfl, ?_⟩) (fun _ => hHeld) ?_
        rotate_left
        · intro w hSw
          (try dsimp only at hSw)
          go_simp
          try with_reducible rfl
        try simp only [Act.put, List.setIfInBounds_toArray, List.set_cons_zero, List.set_cons_succ]
        refine wpTill_ready (rs := [5]) (by kernel_rfl) (by simp) ?_
        refine AllTill.cons (o := ⟨some 42, _, _, _, _, _⟩) rfl (fun K hK => ?_) AllTill.nil
        rw [if_pos (show Region.wanted _ _ = true from rfl)]
        go_simp
        go_at_call 18
        refine (params_any 63 (by omega) _).mono ?_
        rintro e w9 ⟨rfl, hb⟩
        have HQ := Lib.hid (HP8.out.later (below_call ((Below.refl _ _).drew : Below w8.heap.size w8 w8.drew) (Nat.le_refl _) hb))
        have HSw9 := Lib.hid (cell_keep hb (cell_lt1 hHeld) hHeld)
        clear hb
        go_simp
        refine hK.out _ _ (by exact HSw9.out) (fun hHeld => ?_)
        clear hK K
        try simp only [Act.put, List.setIfInBounds_toArray, List.set_cons_zero, List.set_cons_succ]
        refine wpTill_ready (rs := [6]) (by kernel_rfl) (by simp) ?_
        refine AllTill.consD (o := ⟨some 43, _, _, _, _, _⟩) rfl (by kernel_rfl) (fun K hK => ?_) AllTill.nil
        rw [if_pos (show Region.wanted _ _ = true from rfl)]
        go_simp
        go_at_call 19
        obtain ⟨lab, a, b, hs, hgo⟩ := HQ.out.swap.open
        have HG := Lib.hid hgo
        clear hgo
        refine (tallow_any q _ lab a b (pmN 63) _ hs pm63_ok rfl rfl).mono ?_
        rintro e w10 ⟨rfl, hs7, hu7⟩
        have HR := Lib.hid (HG.out _ _ ⟨lab, hs7, hu7, fun k hk => .inl hk⟩)
        clear hs hs7 hu7 HG
        go_simp
        refine hK.out _ _ ?_
        clear hK K
        try simp only [Act.put, List.setIfInBounds_toArray, List.set_cons_zero, List.set_cons_succ]
        refine wpTill_done (by kernel_rfl) ?_ _
        go_wp2_with fail
        go_meet
        case rel => exact HR.out.swap
      case rest =>
        have HP9 := Lib.hid hcut
        clear hcut
        go_wp2_with fail
        go_ret2
        exact ⟨za, zb, p, q, csa, csb, rfl, ha0, hb0, HP9.out⟩
end Go.Proofs.YtnneoeimgbemfaaGreat

/- DERIVED. Split off OutRd. -/
namespace Go.Proofs.YtnneoeimgbemfaaGreat
open Go.RowKit

set_option maxRecDepth 100000 in
set_option maxHeartbeats 1000000 in
theorem oknown_q (b : Nat) (s : OS) (fp : Nat → Prop) (off : Nat) (n : Int) (w : World) (h : OAt w b s fp) (ho : off < 18446744073709551616) (hn : -9223372036854775808 ≤ n) (hn2 : n ≤ 9223372036854775807) :
    Calls Tryz.prog 71 #[.pointer (some ⟨b, 0, none⟩), .int .u64 off, .int .i64 n] w fun e w' => e = .returned (.tuple #[.int .u64 (s.kn off n).1, .int .u64 (s.kn off n).2]) ∧ ∃ q, w' = w.drewN q := by
  obtain ⟨_, _, c3, _⟩ := h.cells
  obtain ⟨h1, _, h2⟩ := h.bd
  unfold OS.kn
  generalize s.sent = sent at *
  generalize s.B.length = len at *
  clear h
  obtain ⟨f, hf⟩ : ∃ f, min off sent = f := ⟨_, rfl⟩
  have hf2 : f ≤ sent := by omega
  rw [hf]
  obtain ⟨m, hm, hm2⟩ : ∃ m : Nat, (if 0 < n then n else 0) = (m : Int) ∧ n.toNat = m := ⟨n.toNat, by split <;> omega, rfl⟩
  obtain ⟨t, ht⟩ : ∃ t, min sent (f + m) = t := ⟨_, rfl⟩
  rw [hm2, ht]
  have hmb : m ≤ 9223372036854775807 := by omega
  go_enter Tryz.func71, Tryz.ntmps71
  go_upto_region 1 with fail
  go_cut [1] (fun v wx => v = .int .u64 f ∧ wx = w)
  case first =>
    by_cases hlt : off < sent
    · obtain rfl : f = off := by omega
      go_wp2_with fail
      go_meet
      case rel => first | exact ⟨rfl, rfl⟩ | (refine ⟨?_, rfl⟩; congr 1; omega)
    · obtain rfl : f = sent := by omega
      by_cases he : off = f
      · subst he
        go_wp2_with fail
        go_meet
        case rel => first | exact ⟨rfl, rfl⟩ | (refine ⟨?_, rfl⟩; congr 1; omega)
      · go_wp2_with fail
        go_meet
        case rel => first | exact ⟨rfl, rfl⟩ | (refine ⟨?_, rfl⟩; congr 1; omega)
  case rest =>
    obtain ⟨rfl, rfl⟩ := hcut
    have hw1 : IntKind.u64.wrap (m : Int) = m := IntWalk.u64_in _ (by omega)
    have hw2 : IntKind.u64.wrap ((f : Int) + m) = (f : Int) + m := IntWalk.u64_in _ (by omega)
    clear hf ho
    rcases (by omega : (0 < n ∧ n = m) ∨ (¬ 0 < n ∧ m = 0)) with ⟨q1, q2⟩ | ⟨q1, q2⟩
    · subst q2
      by_cases hlt : (sent : Int) < (f : Int) + m
      · obtain rfl : t = sent := by omega
        go_wp2_with fail
        go_quiet (fail)
        go_wp2_with fail
        go_ret2
        exact ⟨rfl, _, rfl⟩
      · obtain rfl : t = f + m := by omega
        by_cases hlt2 : (f : Int) + m < sent
        · go_wp2_with fail
          go_quiet (fail)
          go_wp2_with fail
          go_ret2
          exact ⟨by simp, _, rfl⟩
        · have hlt3 : (f : Int) + m = sent := by omega
          go_wp2_with fail
          go_quiet (fail)
          go_wp2_with fail
          go_ret2
          exact ⟨by simp; omega, _, rfl⟩
    · subst q2
      obtain rfl : t = f := by omega
      by_cases hlt : t < sent
      · go_wp2_with fail
        go_quiet (fail)
        go_wp2_with fail
        go_ret2
        exact ⟨rfl, _, rfl⟩
      · obtain rfl : t = sent := by omega
        go_wp2_with fail
        go_quiet (fail)
        go_wp2_with fail
        go_ret2
        exact ⟨rfl, _, rfl⟩
end Go.Proofs.YtnneoeimgbemfaaGreat

/- DERIVED. Sets in memory: Gap. -/
namespace Go.Proofs.YtnneoeimgbemfaaGreat
open Go.RowKit

theorem alloc_set {w : World} {b c : Nat} {o p : Obj} (h : w.heap[b]? = some p) (_hne : b ≠ c) (_hc : c = w.heap.size) : (w.alloc o).heap[b]? = some p := alloc_old h

set_option maxRecDepth 100000 in
set_option maxHeartbeats 400000 in
theorem gap_any (b : Nat) (most : Int) (og : Option Nat) (xs : List Rg) (f t : Nat) (w : World) (h : SetAt w b most og xs) (hf : f < 18446744073709551616) (ht : t < 18446744073709551616) (hx : Norm xs) :
    Calls Tryz.prog 72 #[.pointer (some ⟨b, 0, none⟩), .int .u64 f, .int .u64 t] w
      fun e w' => e = .returned (.tuple #[.agg #[.int .u64 (gapL xs f t).1.1, .int .u64 (gapL xs f t).1.2], .bool (gapL xs f t).2]) ∧ Below w.heap.size w w' := by
  obtain ⟨v, hb, hs, hne⟩ := h
  have c1 := cell_at hb 1
  simp at c1
  obtain ⟨oa, cap, rfl, hcap, hcap2⟩ := hs.shape
  have HS := Lib.hid hs
  have HX := Lib.hid hx
  clear hb hs hx
  generalize hn : xs.length = len at *
  have HN := Lib.hid hn
  clear hn
  have hW : ∃ W, W = w.alloc (.cells #[.int .u64 0, .int .u64 0] 123) := ⟨_, rfl⟩
  obtain ⟨W, hW⟩ := hW
  have hc1 := Lib.cell?_alloc_some (.cells #[.int .u64 0, .int .u64 0] 123) c1
  rw [← hW] at hc1
  have HB0 := Lib.hid (show Below w.heap.size w W by rw [hW]; exact (Below.refl _ _).alloc (Nat.le_refl _) _)
  have HR0 := Lib.hid (show W.heap[w.heap.size]? = some (.cells #[.int .u64 0, .int .u64 0] 123 (0, 0)) by rw [hW]; exact alloc_at _ _)
  have HW := Lib.hid hW
  clear hW
  have ha := fun o => Lib.cell?_alloc_some o c1
  go_enter Tryz.func72, Tryz.ntmps72
  go_upto_block 0 with fail
  rw [← HW.out]
  clear ha c1
  go_cut [1, 2] (fun fv tv wx => fv = .int .u64 (gapF xs f t).1 ∧ tv = .int .u64 (gapF xs f t).2 ∧ (gapF xs f t).1 < 18446744073709551616 ∧ (gapF xs f t).2 < 18446744073709551616 ∧ Below w.heap.size w wx ∧ wx.heap[w.heap.size]? = some (.cells #[.int .u64 0, .int .u64 0] 123 (0, 0)))
  case first =>
    go_wp2_with fail
    go_loopw [1, 2, 15] (fun fv tv i wr => ∃ k a : Nat, i = .int .i64 k ∧ k ≤ len ∧ fv = .int .u64 a ∧ tv = .int .u64 t ∧ a < 18446744073709551616 ∧ gapF (xs.drop k) a t = gapF xs f t ∧ Below w.heap.size w wr ∧ wr.heap[w.heap.size]? = some (.cells #[.int .u64 0, .int .u64 0] 123 (0, 0))) (fun _ _ i _ => len - (intOf i).toNat)
    case atStart => exact ⟨0, f, rfl, by omega, rfl, rfl, hf, rfl, HB0.out, HR0.out⟩
    case round =>
      obtain ⟨k, a, rfl, hk, rfl, rfl, ha, hg, hb, hres⟩ := hrel
      have HG := Lib.hid hg
      have HB := Lib.hid hb
      have HR := Lib.hid hres
      clear hg hb hres
      by_cases hlt : k < len
      · obtain ⟨r, hr⟩ : ∃ r, xs[k]? = some r := ⟨_, List.getElem?_eq_getElem (by rw [HN.out]; exact hlt)⟩
        obtain ⟨hr1, hr2⟩ := HX.out.at hr
        obtain ⟨g, hog, rfl, hgl, c0, c1⟩ := HS.out.atS hr
        have d0 := (HB.out.cell (p := ⟨g, k * 2, none⟩) hgl).trans c0
        have d1 := (HB.out.cell (p := ⟨g, k * 2 + 1, none⟩) hgl).trans c1
        have HD := Lib.hid (drop_at hr)
        clear c0 c1 hog hr hc1
        by_cases h1 : r.2 ≤ a
        · go_wp2
          go_roundw
          case rel =>
            refine ⟨k + 1, a, by go_num, by omega, rfl, rfl, ha, ?_, HB.out.alloc HB.out.size _, alloc_old HR.out⟩
            rw [← HG.out, HD.out, gapF, if_pos h1]
          case measure => simp [intOf]; omega
        · by_cases h2 : a < r.1
          · have e : gapF xs f t = (a, min t r.1) := by rw [← HG.out, HD.out, gapF, if_neg h1, if_pos h2]
            have HE := Lib.hid e
            clear e
            by_cases h3 : r.1 < t
            · go_wp2
              go_meet
              rw [HE.out, show min t r.1 = r.1 by omega]
              exact ⟨rfl, rfl, ha, by simp only []; omega, HB.out.alloc HB.out.size _, alloc_old HR.out⟩
            · go_wp2
              go_meet
              rw [HE.out, show min t r.1 = t by omega]
              exact ⟨rfl, rfl, ha, ht, HB.out.alloc HB.out.size _, alloc_old HR.out⟩
          · go_wp2
            go_roundw
            case rel =>
              refine ⟨k + 1, r.2, by go_num, by omega, rfl, rfl, by omega, ?_, HB.out.alloc HB.out.size _, alloc_old HR.out⟩
              rw [← HG.out, HD.out, gapF, if_neg h1, if_neg h2]
            case measure => simp [intOf]; omega
      · go_wp2
        go_meet
        have e : gapF xs f t = (a, t) := by
          rw [← HG.out, List.drop_eq_nil_of_le (by rw [HN.out]; omega), gapF]
        rw [e]
        exact ⟨rfl, rfl, ha, ht, HB.out, HR.out⟩
  case rest =>
    obtain ⟨rfl, rfl, ha, hb, hB, hR⟩ := hcut
    have hgl : gapL xs f t = if (gapF xs f t).2 ≤ (gapF xs f t).1 then ((0, 0), false) else (gapF xs f t, true) := rfl
    generalize gapF xs f t = ac at *
    obtain ⟨a, c⟩ := ac
    simp only [] at *
    have f0 := free_at hR 0
    have f1 := free_at hR 1
    have c0 := cell_at hR 0
    have c2 := cell_at hR 1
    simp at c0 c2
    have HB := Lib.hid hB
    have HGL := Lib.hid hgl
    clear hB hR HB0 HR0 HW hc1 hgl
    by_cases h1 : c ≤ a
    · go_wp2
      (try simp only [Exit.inBlock, Exit.then])
      refine bodyPost_ret (v := .tuple #[.agg #[.int .u64 0, .int .u64 0], .bool false]) ?_ rfl ⟨?_, ?_⟩
      · rw [results_cell_tmp rfl]
        go_simp
      · rw [HGL.out, if_pos h1]
        rfl
      · exact (HB.out.setCell (p := ⟨w.heap.size, 0, none⟩) (Nat.le_refl _) _).setCell (p := ⟨w.heap.size, 1, none⟩) (Nat.le_refl _) _
    · go_wp2
      (try simp only [Exit.inBlock, Exit.then])
      refine bodyPost_ret (v := .tuple #[.agg #[.int .u64 a, .int .u64 c], .bool true]) ?_ rfl ⟨?_, ?_⟩
      · rw [results_cell_tmp rfl]
        go_simp
      · rw [HGL.out, if_neg h1]
      · exact (HB.out.setCell (p := ⟨w.heap.size, 0, none⟩) (Nat.le_refl _) _).setCell (p := ⟨w.heap.size, 1, none⟩) (Nat.le_refl _) _
end Go.Proofs.YtnneoeimgbemfaaGreat

/- DERIVED. Walk of outbuf's Acked, where nothing is lost. -/
namespace Go.Proofs.YtnneoeimgbemfaaGreat
open Go.RowKit

theorem exec_tailK {P : Program} {o : Oper} {w : World} {t e : TypeId} (hu : P.underlying t = some (.slice e)) {i : TypeInfo} (hi : P.info? e = some i) {f : Operand → Value} {x l : Operand} (ho : o.op = .slice t x (some l) none none) {oa : Option Addr} {len cap n : Nat} {kn : IntKind}
    (hx : f x = .slice oa len cap) (hl : f l = .int kn n) (h1 : n ≤ len) (h2 : len ≤ cap) : (execOp f o).run P w = .ok (.value (tailV oa i.size len cap n)) w := by
  simp [execOp, ho, hx, hl, Instr.sliceAt, Instr.slice, run_underlying hu, Instr.sliceBounds, Instr.sliceBound, sizeOf, typeInfo, asIntOf, hi, h1, h2, tailV]
/-- Acknowledged: what becomes of it. -/
def OS.acks (s : OS) (zs : List Rg) (at_ : Nat) : OS := { s with xs := zs, base := at_ }
set_option maxRecDepth 100000 in
set_option maxHeartbeats 2000000 in
theorem oack_any (b : Nat) (s : OS) (fp : Nat → Prop) (off : Nat) (n : Int) (zs : List Rg) (at_ : Nat) (w : World) (h : OAt w b s fp) (ho : off < 18446744073709551616) (hn : -9223372036854775808 ≤ n) (hn2 : n ≤ 9223372036854775807) (hys : s.ys = [])
    (hzs : s.ackX (s.kn off n) = zs) (hnz : Norm zs) (hlz : zs.length ≤ 100000) (hat : atOf zs s.B.length = at_) (hat1 : s.base ≤ at_) (hat2 : at_ ≤ s.B.length) :
    Calls Tryz.prog 51 #[.pointer (some ⟨b, 0, none⟩), .int .u64 off, .int .i64 n, .bool false] w fun e w' => e = .returned (.tuple #[]) ∧ OM w w' fp b (s.acks zs at_) := by
  obtain ⟨i0, hi0, hz0, hz1, hz2'⟩ := info_parts infoB
  have hlen := h.ok.len
  have hsl := h.ok.sent
  obtain ⟨from_, to_, hkn⟩ : ∃ f t, s.kn off n = (f, t) := ⟨_, _, rfl⟩
  have hto : to_ ≤ s.B.length ∧ from_ ≤ s.B.length := by
    unfold OS.kn at hkn
    simp only [Prod.mk.injEq] at hkn
    omega
  have H := Lib.hid h
  have HY := Lib.hid hys
  have HKN := Lib.hid hkn
  have HZS := Lib.hid (show (if from_ < to_ ∧ to_ ≤ 4611686018427387904 then addL many s.xs from_ to_ else s.xs) = zs by
    rw [← hzs, hkn]
    unfold OS.ackX
    by_cases q : from_ < to_
    · rw [if_pos ⟨q, by omega⟩, if_pos q]
    · rw [if_neg (fun q2 => q q2.1), if_neg q])
  have HNZ := Lib.hid (And.intro hnz hlz)
  have HAT := Lib.hid (And.intro hat (And.intro hat1 hat2))
  clear h hys hkn hzs hnz hlz hat hat1 hat2
  obtain ⟨hto1, hto2⟩ := hto
  go_enter Tryz.func51, Tryz.ntmps51
  go_wp2_with fail
  refine (oknown_q b s fp off n _ (by exact H.out) ho hn hn2).mono ?_
  rw [HKN.out]
  rintro e w1 ⟨rfl, q, rfl⟩
  have H1 := Lib.hid ((OM.refl H.out).drewN q)
  generalize w.drewN q = w1 at *
  obtain ⟨fp1, hoa, hw1⟩ := H1.out
  obtain ⟨vb, ob, c, oc, d, od, hO, hfp⟩ := hoa
  rw [hfp] at hw1
  have HO := Lib.hid hO
  have HW := Lib.hid hw1
  have c4 : w1.cell? ⟨b, 4, none⟩ = some (.pointer (some ⟨c, 0, none⟩)) := (cell_at hO.blk 4).trans rfl
  clear hO hfp hw1 H1
  go_wp2_with fail
  refine (add_any c many oc s.xs from_ to_ _ (by exact HO.out.sx) (by decide) (by decide) (by have := HO.out.ok.lx; omega)).mono ?_
  rw [HZS.out]
  rintro e w2 ⟨rfl, ht⟩
  have H2 := Lib.hid (om_turnC HO.out HW.out ht HNZ.out.1 HNZ.out.2)
  clear ht HO HW c4
  obtain ⟨fp2, hoa, hw2⟩ := H2.out
  obtain ⟨vb, ob, c, oc, d, od, hO, hfp⟩ := hoa
  rw [hfp] at hw2
  have HO := Lib.hid hO
  have HW := Lib.hid hw2
  have c5 : w2.cell? ⟨b, 5, none⟩ = some (.pointer (some ⟨d, 0, none⟩)) := (cell_at hO.blk 5).trans rfl
  clear hO hfp hw2 H2
  go_wp2_with fail
  refine (cut_any d many od s.ys from_ to_ _ (by exact HO.out.sy) (by decide) (by decide) (by omega) (by omega) HO.out.ok.ny (by rw [HY.out]; simp)).mono ?_
  rw [HY.out]
  rintro e w3 ⟨rfl, ht⟩
  have hm3 := om_turnD HO.out HW.out ht (show Norm (trimL many (cutRaw from_ to_ [])) from ⟨by simp [trimL, cutRaw], by simp [trimL, cutRaw]⟩) (by simp [trimL, cutRaw])
  rw [show trimL many (cutRaw from_ to_ []) = [] by simp [trimL, cutRaw]] at hm3
  have H3 := Lib.hid hm3
  clear ht HO HW c5 hm3
  obtain ⟨fp3, hoa, hw3⟩ := H3.out
  obtain ⟨vb, ob, c, oc, d, od, hO, hfp⟩ := hoa
  rw [hfp] at hw3
  have HO := Lib.hid hO
  have HW := Lib.hid hw3
  clear hO hfp hw3 H3
  obtain ⟨len, hln⟩ : ∃ len, s.B.length = len := ⟨_, rfl⟩
  have HLE := Lib.hid hln
  rw [hln] at hlen hsl hto1 hto2 HAT
  obtain ⟨lo, hi, ok, hga⟩ : ∃ lo hi ok, gapL zs 0 len = ((lo, hi), ok) := ⟨_, _, _, rfl⟩
  have HGA := Lib.hid hga
  have e2 : w3.cell? ⟨b, 2, none⟩ = some (.int .u64 len) := by rw [cell_at HO.out.blk, ← hln]; rfl
  have HSX := Lib.hid (show SetAt w3.drew c many oc zs from HO.out.sx.below (Below.refl _ _).drew)
  have HSof := Lib.hid (show ∀ W, Below w3.drew.heap.size w3.drew W → W.cell? ⟨b, 4, none⟩ = some (.pointer (some ⟨c, 0, none⟩)) ∧ W.cell? ⟨b, 2, none⟩ = some (.int .u64 len) from fun W h => by
    have hk := below_keeps h (show w3.drew.heap[b]? = _ from HO.out.blk) (heap_lt HO.out.blk)
    refine ⟨(cell_at hk 4).trans rfl, ?_⟩
    rw [cell_at hk, ← hln]
    rfl)
  have HNX := Lib.hid HNZ.out.1
  clear hln hga
  go_upto_region 6 with fail
  go_cut [11, 12] (fun v a wx => ∃ z, v = .pointer (some ⟨z, 0, none⟩) ∧ a = .bool ok ∧ wx.cell? ⟨z, 0, none⟩ = some (.int .u64 lo) ∧ Below w3.drew.heap.size w3.drew wx)
  case first =>
    go_wp2_with fail
    have hb : Below w3.drew.heap.size w3.drew w3.drew := Below.refl _ _
    refine wp_region_till (S := fun w' => w'.cell? ⟨b, 4, none⟩ = some (.pointer (some ⟨c, 0, none⟩)) ∧ w'.cell? ⟨b, 2, none⟩ = some (.int .u64 len)) [] (by kernel_rfl) (by exact HSof.out _ hb) (fun hHeld => ?_)
    refine wpTill_take0 (i := 0) (oi := ⟨some 49, _, _, _, _, _⟩) (v := ?_) rfl (by kernel_rfl) (fun _ _ _ h => h) (Or.inl ⟨by rfl, ?_⟩) (fun _ => hHeld) ?_
    rotate_left
    · intro w hSw
      (try dsimp only at hSw)
      go_simp
      try with_reducible rfl
    try simp only [Act.put, List.setIfInBounds_toArray, List.set_cons_zero, List.set_cons_succ]
    refine wpTill_take0 (i := 1) (oi := ⟨some 50, _, _, _, _, _⟩) (v := ?_) rfl (by kernel_rfl) (fun _ _ _ h => h) (Or.inl ⟨by rfl, ?_⟩) (fun _ => hHeld) ?_
    rotate_left
    · intro w hSw
      (try dsimp only at hSw)
      go_simp
      try with_reducible rfl
    try simp only [Act.put, List.setIfInBounds_toArray, List.set_cons_zero, List.set_cons_succ]
    refine wpTill_take0 (i := 2) (oi := ⟨some 51, _, _, _, _, _⟩) (v := ?_) rfl (by kernel_rfl) (fun _ _ _ h => h) (Or.inl ⟨by rfl, ?_⟩) (fun _ => hHeld) ?_
    rotate_left
    · intro w hSw
      (try dsimp only at hSw)
      go_simp
      try with_reducible rfl
    try simp only [Act.put, List.setIfInBounds_toArray, List.set_cons_zero, List.set_cons_succ]
    refine wpTill_take (i := 3) (oi := ⟨some 52, _, _, _, _, _⟩) (v := ?_) rfl (by kernel_rfl) (fun _ _ _ h => h) (Or.inl ⟨by rfl, ?_⟩) (by exact hHeld) ?_
    rotate_left
    · intro w hSw
      (try dsimp only at hSw)
      go_simp
      try with_reducible rfl
    try simp only [Act.put, List.setIfInBounds_toArray, List.set_cons_zero, List.set_cons_succ]
    refine wpTill_take0 (i := 4) (oi := ⟨some 53, _, _, _, _, _⟩) (v := ?_) rfl (by kernel_rfl) (fun _ _ _ h => h) (Or.inl ⟨by rfl, ?_⟩) (fun _ => hHeld) ?_
    rotate_left
    · intro w hSw
      (try dsimp only at hSw)
      go_simp
      try with_reducible rfl
    try simp only [Act.put, List.setIfInBounds_toArray, List.set_cons_zero, List.set_cons_succ]
    refine wpTill_take0 (i := 5) (oi := ⟨some 54, _, _, _, _, _⟩) (v := ?_) rfl (by kernel_rfl) (fun _ _ _ h => h) (Or.inl ⟨by rfl, ?_⟩) (fun _ => hHeld) ?_
    rotate_left
    · intro w hSw
      (try dsimp only at hSw)
      go_simp
      try with_reducible rfl
    try simp only [Act.put, List.setIfInBounds_toArray, List.set_cons_zero, List.set_cons_succ]
    refine wpTill_take0 (i := 6) (oi := ⟨some 55, _, _, _, _, _⟩) (v := ?_) rfl (by kernel_rfl) (fun _ _ _ h => h) (Or.inl ⟨by rfl, ?_⟩) (fun _ => hHeld) ?_
    rotate_left
    · intro w hSw
      (try dsimp only at hSw)
      go_simp
      try with_reducible rfl
    try simp only [Act.put, List.setIfInBounds_toArray, List.set_cons_zero, List.set_cons_succ]
    refine wpTill_take (i := 7) (oi := ⟨some 56, _, _, _, _, _⟩) (v := ?_) rfl (by kernel_rfl) (fun _ _ _ h => h) (Or.inl ⟨by rfl, ?_⟩) (by exact hHeld) ?_
    rotate_left
    · intro w hSw
      (try dsimp only at hSw)
      go_simp
      try with_reducible rfl
    try simp only [Act.put, List.setIfInBounds_toArray, List.set_cons_zero, List.set_cons_succ]
    refine wpTill_ready (rs := [8, 12]) (by kernel_rfl) (by simp) ?_
    refine AllTill.cons (o := ⟨some 57, _, _, _, _, _⟩) rfl (fun K hK => ?_) ?_
    · go_simp
      go_at_call 72
      refine (gap_any c many oc zs 0 len _ (by exact HSX.out.below hb) (by omega) (by omega) HNX.out).mono ?_
      rw [HGA.out]
      rintro e W8 ⟨rfl, hx8⟩
      have hb := below_call hb hb.size hx8
      go_wp2_with fail
      refine hK.out _ _ (by exact HSof.out _ hb) (fun hHeld => ?_)
      clear hK K
      try simp only [Act.put, List.setIfInBounds_toArray, List.set_cons_zero, List.set_cons_succ]
      refine wpTill_take0 (i := 9) (oi := ⟨some 48, _, _, _, _, _⟩) (v := ?_) rfl (by kernel_rfl) (fun _ _ _ h => h) (Or.inl ⟨by rfl, ?_⟩) (fun _ => hHeld) ?_
      rotate_left
      · intro w hSw
        (try dsimp only at hSw)
        go_simp
        try with_reducible rfl
      try simp only [Act.put, List.setIfInBounds_toArray, List.set_cons_zero, List.set_cons_succ]
      refine wpTill_take0 (i := 10) (oi := ⟨some 58, _, _, _, _, _⟩) (v := ?_) rfl (by kernel_rfl) (fun _ _ _ h => h) (Or.inl ⟨by rfl, ?_⟩) (fun _ => hHeld) ?_
      rotate_left
      · intro w hSw
        (try dsimp only at hSw)
        go_simp
        try with_reducible rfl
      try simp only [Act.put, List.setIfInBounds_toArray, List.set_cons_zero, List.set_cons_succ]
      refine wpTill_take0 (i := 11) (oi := ⟨some 59, _, _, _, _, _⟩) (v := ?_) rfl (by kernel_rfl) (fun _ _ _ h => h) (Or.inl ⟨by rfl, ?_⟩) (fun _ => hHeld) ?_
      rotate_left
      · intro w hSw
        (try dsimp only at hSw)
        go_simp
        try with_reducible rfl
      try simp only [Act.put, List.setIfInBounds_toArray, List.set_cons_zero, List.set_cons_succ]
      refine wpTill_ready (rs := [12]) (by kernel_rfl) (by simp) ?_
      refine AllTill.cons (o := ⟨some 11, _, _, _, _, _⟩) rfl (fun K hK => ?_) AllTill.nil
      go_simp
      have hb8 := hb
      have hb := hb.alloc hb.size (.cells #[.int .u64 0, .int .u64 0] 123)
      refine hK.out _ _ (by exact HSof.out _ hb) (fun hHeld => ?_)
      clear hK K
      try simp only [Act.put, List.setIfInBounds_toArray, List.set_cons_zero, List.set_cons_succ]
      refine wpTill_ready (rs := [13]) (by kernel_rfl) (by simp) ?_
      refine AllTill.cons (o := ⟨none, _, _, _, _, _⟩) rfl (fun K hK => ?_) AllTill.nil
      go_simp
      have hb := hb8.alloc hb8.size (.cells #[.int .u64 lo, .int .u64 hi] 123)
      have hzz := alloc_at W8 (.cells #[.int .u64 lo, .int .u64 hi] 123)
      refine hK.out _ _ (by exact HSof.out _ hb) (fun hHeld => ?_)
      clear hK K
      try simp only [Act.put, List.setIfInBounds_toArray, List.set_cons_zero, List.set_cons_succ]
      refine wpTill_ready (rs := [14]) (by kernel_rfl) (by simp) ?_
      refine AllTill.cons (o := ⟨some 12, _, _, _, _, _⟩) rfl (fun K hK => ?_) AllTill.nil
      go_simp
      refine hK.out _ _ (by exact HSof.out _ hb) (fun hHeld => ?_)
      clear hK K
      try simp only [Act.put, List.setIfInBounds_toArray, List.set_cons_zero, List.set_cons_succ]
      refine wpTill_done (by kernel_rfl) ?_ _
      go_wp2_with fail
      go_meet
      case rel => exact ⟨_, rfl, rfl, (cell_at hzz 0).trans rfl, hb⟩
    refine AllTill.cons (o := ⟨some 11, _, _, _, _, _⟩) rfl (fun K hK => ?_) ?_
    · go_simp
      have hzz : (w3.drew.alloc (.cells #[.int .u64 0, .int .u64 0] 123)).heap[w3.heap.size]? = some (.cells #[.int .u64 0, .int .u64 0] 123 (0, 0)) := alloc_at w3.drew _
      have hz12 : w3.drew.heap.size ≤ w3.heap.size := Nat.le_refl _
      have hb := hb.alloc hb.size (.cells #[.int .u64 0, .int .u64 0] 123)
      refine hK.out _ _ (by exact HSof.out _ hb) (fun hHeld => ?_)
      clear hK K
      try simp only [Act.put, List.setIfInBounds_toArray, List.set_cons_zero, List.set_cons_succ]
      refine wpTill_ready (rs := [8]) (by kernel_rfl) (by simp) ?_
      refine AllTill.cons (o := ⟨some 57, _, _, _, _, _⟩) rfl (fun K hK => ?_) AllTill.nil
      go_simp
      go_at_call 72
      refine (gap_any c many oc zs 0 len _ (by exact HSX.out.below hb) (by omega) (by omega) HNX.out).mono ?_
      rw [HGA.out]
      rintro e W8 ⟨rfl, hx8⟩
      have hb := below_call hb hb.size hx8
      have hzz := below_keeps hx8 hzz (heap_lt hzz)
      go_wp2_with fail
      refine hK.out _ _ (by exact HSof.out _ hb) (fun hHeld => ?_)
      clear hK K
      try simp only [Act.put, List.setIfInBounds_toArray, List.set_cons_zero, List.set_cons_succ]
      refine wpTill_take0 (i := 9) (oi := ⟨some 48, _, _, _, _, _⟩) (v := ?_) rfl (by kernel_rfl) (fun _ _ _ h => h) (Or.inl ⟨by rfl, ?_⟩) (fun _ => hHeld) ?_
      rotate_left
      · intro w hSw
        (try dsimp only at hSw)
        go_simp
        try with_reducible rfl
      try simp only [Act.put, List.setIfInBounds_toArray, List.set_cons_zero, List.set_cons_succ]
      refine wpTill_take0 (i := 10) (oi := ⟨some 58, _, _, _, _, _⟩) (v := ?_) rfl (by kernel_rfl) (fun _ _ _ h => h) (Or.inl ⟨by rfl, ?_⟩) (fun _ => hHeld) ?_
      rotate_left
      · intro w hSw
        (try dsimp only at hSw)
        go_simp
        try with_reducible rfl
      try simp only [Act.put, List.setIfInBounds_toArray, List.set_cons_zero, List.set_cons_succ]
      refine wpTill_take0 (i := 11) (oi := ⟨some 59, _, _, _, _, _⟩) (v := ?_) rfl (by kernel_rfl) (fun _ _ _ h => h) (Or.inl ⟨by rfl, ?_⟩) (fun _ => hHeld) ?_
      rotate_left
      · intro w hSw
        (try dsimp only at hSw)
        go_simp
        try with_reducible rfl
      try simp only [Act.put, List.setIfInBounds_toArray, List.set_cons_zero, List.set_cons_succ]
      refine wpTill_ready (rs := [13]) (by kernel_rfl) (by simp) ?_
      refine AllTill.cons (o := ⟨none, _, _, _, _, _⟩) rfl (fun K hK => ?_) AllTill.nil
      have z0 := cell_at hzz 0
      have z1 := cell_at hzz 1
      have y0 := free_at hzz 0
      have y1 := free_at hzz 1
      go_simp
      have hb := (hb.setCell (p := ⟨w3.heap.size, 0, none⟩) hz12 (.int .u64 lo)).setCell (p := ⟨w3.heap.size, 1, none⟩) hz12 (.int .u64 hi)
      have hzz := set_at (set_at hzz 0 (.int .u64 lo)) 1 (.int .u64 hi)
      refine hK.out _ _ (by exact HSof.out _ hb) (fun hHeld => ?_)
      clear hK K
      try simp only [Act.put, List.setIfInBounds_toArray, List.set_cons_zero, List.set_cons_succ]
      refine wpTill_ready (rs := [14]) (by kernel_rfl) (by simp) ?_
      refine AllTill.cons (o := ⟨some 12, _, _, _, _, _⟩) rfl (fun K hK => ?_) AllTill.nil
      go_simp
      refine hK.out _ _ (by exact HSof.out _ hb) (fun hHeld => ?_)
      clear hK K
      try simp only [Act.put, List.setIfInBounds_toArray, List.set_cons_zero, List.set_cons_succ]
      refine wpTill_done (by kernel_rfl) ?_ _
      go_wp2_with fail
      go_meet
      case rel => exact ⟨_, rfl, rfl, (cell_at hzz 0).trans rfl, hb⟩
    exact AllTill.nil
  case rest =>
    obtain ⟨z, rfl, rfl, hz0, hb4⟩ := hcut
    generalize wc = w4 at *
    have hb34 : Below w3.heap.size w3 w4 := below_call (Below.refl _ _).drew (Nat.le_refl _) hb4
    have HO4 := Lib.hid (HO.out.below hb34)
    have HW4 := Lib.hid (HW.out.later hb34)
    have hatv : (if ok then lo else len) = at_ := by
      have := HAT.out.1
      unfold atOf at this
      rw [HGA.out] at this
      exact this
    obtain ⟨_, hat1, hat2⟩ := HAT.out
    clear hb4 hb34 HSof HSX HO HW e2
    go_upto_if 60 with fail
    go_cut [10] (fun v wx => v = .int .u64 at_ ∧ wx = w4)
    case first =>
      cases ok
      · simp at hatv
        subst hatv
        go_wp2_with fail
        go_meet
        case rel => exact ⟨rfl, rfl⟩
      · simp at hatv
        subst hatv
        go_wp2_with fail
        go_meet
        case rel => exact ⟨rfl, rfl⟩
    case rest =>
      obtain ⟨rfl, rfl⟩ := hcut
      clear hatv hz0
      generalize wc = w4 at *
      obtain ⟨oB, cB, e0, hcB, hcB2⟩ := HO4.out.row.shape
      have HBS := Lib.hid (show ({ s with xs := zs, ys := [] } : OS).base = s.base from rfl)
      obtain ⟨base, hbase⟩ : ∃ base, s.base = base := ⟨_, rfl⟩
      have HBA := Lib.hid hbase
      obtain ⟨n0, hn0⟩ : ∃ n0, len - base = n0 := ⟨_, rfl⟩
      have hdl : (s.B.drop s.base).length = n0 := by rw [List.length_drop, HLE.out, hbase]; exact hn0
      rw [show ((({ s with xs := zs, ys := [] } : OS).B.drop ({ s with xs := zs, ys := [] } : OS).base)).length = n0 from hdl] at e0 hcB
      subst e0
      rw [hbase] at hat1
      obtain ⟨l, hl, hl2⟩ : ∃ l : Nat, (at_ : Int) - (base : Int) = (l : Int) ∧ at_ - base = l := ⟨at_ - base, by omega, rfl⟩
      have hln0 : l ≤ n0 := by omega
      have hwl : IntKind.u64.wrap (l : Int) = l := IntWalk.u64_in _ (by omega)
      have HBK4 := Lib.hid (show w4.drew.heap[b]? = some (.cells #[.slice oB n0 cB, .int .u64 base, .int .u64 s.B.length, .int .u64 s.sent, .pointer (some ⟨c, 0, none⟩), .pointer (some ⟨d, 0, none⟩), .bool s.fi, .bool s.es, .bool s.ea, .bool s.el] 109 (0, 0)) from by
        rw [← hbase]
        exact HO4.out.blk)
      have HRT := Lib.hid (show ∃ og', SlO encB 1 5 w4.drew (tailV oB 1 n0 cB l) og' (s.B.drop at_) ∧ (og' = ob ∨ og' = none) from by
        obtain ⟨og', h1, h2⟩ := SlO.tail (HO4.out.row.below (Below.refl _ _).drew) hln0
        refine ⟨og', ?_, h2⟩
        have e : (s.B.drop s.base).drop l = s.B.drop at_ := by rw [List.drop_drop, hbase, show base + l = at_ by omega]
        rw [← e]
        exact h1)
      have HFIN := Lib.hid (show OM w ((w4.drew.setCell ⟨b, 0, none⟩ (tailV oB 1 n0 cB l)).setCell ⟨b, 1, none⟩ (.int .u64 (at_ : Nat))) fp b (s.acks zs at_) from by
        obtain ⟨og', h1, h2⟩ := HRT.out
        have ho := HO4.out.ok
        refine om_set (s' := s.acks zs at_) (HO4.out.below (Below.refl _ _).drew) (HW4.out.later (Below.refl _ _).drew) (Upd.refl _ _) (((Upd.refl (fun j => j = b) w4.drew).setCell ⟨b, 0, none⟩ (.inl rfl) _).setCell ⟨b, 1, none⟩ (.inl rfl) _) (set_at (set_at HBK4.out 0 (tailV oB 1 n0 cB l)) 1 (.int .u64 (at_ : Nat))) h1 (h2.imp id .inl) rfl ?_ ⟨ho.len, by show at_ ≤ s.B.length; rw [HLE.out]; exact hat2, ho.sent, ho.nx, ?_, ho.lx, ?_, ho.bys⟩
        · exact HY.out
        · show Norm s.ys
          rw [HY.out]
          exact ⟨by simp, by simp⟩
        · show s.ys.length ≤ 100000
          rw [HY.out]
          simp)
      obtain ⟨oT, hT⟩ : ∃ oT, tailV oB 1 n0 cB l = .slice oT (n0 - l) (cB - l) := ⟨_, rfl⟩
      rw [hT] at HFIN
      have HTT := Lib.hid hT
      have e1 : w4.cell? ⟨b, 1, none⟩ = some (.int .u64 base) := (cell_at (show w4.heap[b]? = _ from HBK4.out) 1).trans rfl
      have q1 : w4.frozen? ⟨b, 1, none⟩ = false := free_at (show w4.heap[b]? = _ from HBK4.out) 1
      clear hdl hn0 hl2 hat1 hat2 hbase hT HRT
      go_wp2_with fail
      refine wp_region_till (S := fun w' => w'.cell? ⟨b, 0, none⟩ = some (.slice oB n0 cB) ∧ w'.cell? ⟨b, 1, none⟩ = some (.int .u64 base)) [14] (by kernel_rfl) (by exact ⟨(cell_at HBK4.out 0).trans rfl, (cell_at HBK4.out 1).trans rfl⟩) (fun hHeld => ?_)
      refine wpTill_take0 (i := 0) (oi := ⟨some 63, _, _, _, _, _⟩) (v := ?_) rfl (by kernel_rfl) (fun _ _ _ h => h) (Or.inl ⟨by rfl, ?_⟩) (fun _ => hHeld) ?_
      rotate_left
      · intro w hSw
        (try dsimp only at hSw)
        go_simp
        try with_reducible rfl
      try simp only [Act.put, List.setIfInBounds_toArray, List.set_cons_zero, List.set_cons_succ]
      refine wpTill_take0 (i := 1) (oi := ⟨some 64, _, _, _, _, _⟩) (v := ?_) rfl (by kernel_rfl) (fun _ _ _ h => h) (Or.inl ⟨by rfl, ?_⟩) (fun _ => hHeld) ?_
      rotate_left
      · intro w hSw
        (try dsimp only at hSw)
        go_simp
        try with_reducible rfl
      try simp only [Act.put, List.setIfInBounds_toArray, List.set_cons_zero, List.set_cons_succ]
      refine wpTill_take0 (i := 2) (oi := ⟨some 65, _, _, _, _, _⟩) (v := ?_) rfl (by kernel_rfl) (fun _ _ _ h => h) (Or.inl ⟨by rfl, ?_⟩) (fun _ => hHeld) ?_
      rotate_left
      · intro w hSw
        (try dsimp only at hSw)
        go_simp
        try with_reducible rfl
      try simp only [Act.put, List.setIfInBounds_toArray, List.set_cons_zero, List.set_cons_succ]
      refine wpTill_take0 (i := 3) (oi := ⟨some 66, _, _, _, _, _⟩) (v := ?_) rfl (by kernel_rfl) (fun _ _ _ h => h) (Or.inl ⟨by rfl, ?_⟩) (fun _ => hHeld) ?_
      rotate_left
      · intro w hSw
        (try dsimp only at hSw)
        go_simp
        try with_reducible rfl
      try simp only [Act.put, List.setIfInBounds_toArray, List.set_cons_zero, List.set_cons_succ]
      refine wpTill_take (i := 4) (oi := ⟨some 67, _, _, _, _, _⟩) (v := ?_) rfl (by kernel_rfl) (fun _ _ _ h => h) (Or.inl ⟨by rfl, ?_⟩) (by exact hHeld) ?_
      rotate_left
      · intro w hSw
        (try dsimp only at hSw)
        go_simp
        try with_reducible rfl
      try simp only [Act.put, List.setIfInBounds_toArray, List.set_cons_zero, List.set_cons_succ]
      refine wpTill_take0 (i := 5) (oi := ⟨some 68, _, _, _, _, _⟩) (v := ?_) rfl (by kernel_rfl) (fun _ _ _ h => h) (Or.inl ⟨by rfl, ?_⟩) (fun _ => hHeld) ?_
      rotate_left
      · intro w hSw
        (try dsimp only at hSw)
        go_simp
        try with_reducible rfl
      try simp only [Act.put, List.setIfInBounds_toArray, List.set_cons_zero, List.set_cons_succ]
      refine wpTill_take0 (i := 6) (oi := ⟨some 69, _, _, _, _, _⟩) (v := ?_) rfl (by kernel_rfl) (fun _ _ _ h => h) (Or.inl ⟨by rfl, ?_⟩) (fun _ => hHeld) ?_
      rotate_left
      · intro w hSw
        (try dsimp only at hSw)
        go_simp
        try with_reducible rfl
      try simp only [Act.put, List.setIfInBounds_toArray, List.set_cons_zero, List.set_cons_succ]
      refine wpTill_take0 (i := 7) (oi := ⟨some 70, _, _, _, _, _⟩) (v := ?_) rfl (by kernel_rfl) (fun _ _ _ h => h) (Or.inl ⟨by rfl, ?_⟩) (fun _ => hHeld) ?_
      rotate_left
      · intro w hSw
        (try dsimp only at hSw)
        go_simp
        try with_reducible rfl
      try simp only [Act.put, List.setIfInBounds_toArray, List.set_cons_zero, List.set_cons_succ]
      refine wpTill_take0 (i := 8) (oi := ⟨some 71, _, _, _, _, _⟩) (v := ?_) rfl (by kernel_rfl) (fun _ _ _ h => h) (Or.inl ⟨by rfl, ?_⟩) (fun _ => hHeld) ?_
      rotate_left
      · intro w hSw
        (try dsimp only at hSw)
        go_simp
        try with_reducible rfl
      try simp only [Act.put, List.setIfInBounds_toArray, List.set_cons_zero, List.set_cons_succ]
      refine wpTill_take (i := 9) (oi := ⟨some 72, _, _, _, _, _⟩) (v := ?_) rfl (by kernel_rfl) (fun _ _ _ h => h) (Or.inl ⟨by rfl, ?_⟩) (by exact hHeld) ?_
      rotate_left
      · intro w hSw
        (try dsimp only at hSw)
        go_simp
        try with_reducible rfl
      try simp only [Act.put, List.setIfInBounds_toArray, List.set_cons_zero, List.set_cons_succ]
      refine wpTill_take0 (i := 10) (oi := ⟨some 73, _, _, _, _, _⟩) (v := ?_) rfl (by kernel_rfl) (fun _ _ _ h => h) (Or.inl ⟨by rfl, ?_⟩) (fun _ => hHeld) ?_
      rotate_left
      · intro w hSw
        (try dsimp only at hSw)
        go_simp
        try with_reducible rfl
      try simp only [Act.put, List.setIfInBounds_toArray, List.set_cons_zero, List.set_cons_succ]
      refine wpTill_take0 (i := 11) (oi := ⟨some 74, _, _, _, _, _⟩) (v := .slice oT (n0 - l) (cB - l)) rfl (by kernel_rfl) (fun _ _ _ h => h) (Or.inl ⟨by rfl, ?_⟩) (fun _ => hHeld) ?_
      · intro w hSw
        refine Eq.trans (exec_tailK Tryz.underlying31 hi0 rfl rfl rfl hln0 hcB) ?_
        rw [hz1, HTT.out]
      try simp only [Act.put, List.setIfInBounds_toArray, List.set_cons_zero, List.set_cons_succ]
      refine wpTill_take0 (i := 12) (oi := ⟨some 75, _, _, _, _, _⟩) (v := ?_) rfl (by kernel_rfl) (fun _ _ _ h => h) (Or.inl ⟨by rfl, ?_⟩) (fun _ => hHeld) ?_
      rotate_left
      · intro w hSw
        (try dsimp only at hSw)
        go_simp
        try with_reducible rfl
      try simp only [Act.put, List.setIfInBounds_toArray, List.set_cons_zero, List.set_cons_succ]
      refine wpTill_take0 (i := 13) (oi := ⟨some 76, _, _, _, _, _⟩) (v := ?_) rfl (by kernel_rfl) (fun _ _ _ h => h) (Or.inl ⟨by rfl, ?_⟩) (fun _ => hHeld) ?_
      rotate_left
      · intro w hSw
        (try dsimp only at hSw)
        go_simp
        try with_reducible rfl
      try simp only [Act.put, List.setIfInBounds_toArray, List.set_cons_zero, List.set_cons_succ]
      refine wpTill_ready (rs := [14]) (by kernel_rfl) (by simp) ?_
      refine AllTill.consD (o := ⟨none, _, _, _, _, _⟩) rfl (by kernel_rfl) (fun K hK => ?_) AllTill.nil
      have e0 := cell_at HBK4.out 0
      have q0 := free_at HBK4.out 0
      go_simp
      refine hK.out _ _ ?_
      clear hK K
      try simp only [Act.put, List.setIfInBounds_toArray, List.set_cons_zero, List.set_cons_succ]
      refine wpTill_done (by kernel_rfl) ?_ _
      go_wp2_with fail
      go_end0
      exact ⟨rfl, HFIN.out⟩
end Go.Proofs.YtnneoeimgbemfaaGreat
