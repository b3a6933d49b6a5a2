/- DERIVED. narthexlaw18's pair (63, 63). -/
import Derived.Test.YtfdgamlakfkekaaQR3
import Derived.Test.YtfdgamlakfkekaaQR4
import Derived.Test.YtfdgamlakfkekaaQR10
import Derived.Test.YtfdgamlakfkekaaQR18
import Derived.Test.YtfdgamlakfkekaaQR23
import Derived.Test.YtfdgamlakfkekaaQR25
set_option linter.all false
namespace Go.Proofs.Ytfdgamlakfkekaa
open Go.RowKit

def rU0 : ST := (ST.new true (pmN 63)).allow (pmN 63)
/-- Two sets, and the boxes that lead to them. -/
def PB (W w : World) (za zb p q : Nat) (csa csb : Array Value) (t u : ST) : Prop := ∃ lab a b lab2 a2 b2, StAt w p t lab a b ∧ StAt w q u lab2 a2 b2 ∧ (∀ k, lab k ≠ .out → lab2 k = .out) ∧ (∀ k, lab k ≠ .out → W.heap.size ≤ k) ∧ (∀ k, lab2 k ≠ .out → W.heap.size ≤ k) ∧ Below W.heap.size W w ∧
  w.heap[za]? = some (.cells csa 67 (0, 0)) ∧ w.heap[zb]? = some (.cells csb 67 (0, 0)) ∧ lab za = .out ∧ lab2 za = .out ∧ lab zb = .out ∧ lab2 zb = .out ∧ W.heap.size ≤ za ∧ W.heap.size ≤ zb
theorem PB.later {W w w' : World} {za zb p q : Nat} {csa csb : Array Value} {t u : ST} (h : PB W w za zb p q csa csb t u) (hb : Below w.heap.size w w') : PB W w' za zb p q csa csb t u := by
  obtain ⟨lab, a, b, lab2, a2, b2, h1, h2, h3, h4, h5, h6, h7, h8, h9, h10, h11, h12, h13, h14⟩ := h
  exact ⟨lab, a, b, lab2, a2, b2, h1.below hb, h2.below hb, h3, h4, h5, below_call h6 h6.size hb, below_keeps hb h7 (heap_lt h7), below_keeps hb h8 (heap_lt h8), h9, h10, h11, h12, h13, h14⟩
theorem PB.swap {W w : World} {za zb p q : Nat} {csa csb : Array Value} {t u : ST} (h : PB W w za zb p q csa csb t u) : PB W w zb za q p csb csa u t := by
  obtain ⟨lab, a, b, lab2, a2, b2, h1, h2, h3, h4, h5, h6, h7, h8, h9, h10, h11, h12, h13, h14⟩ := h
  refine ⟨lab2, a2, b2, lab, a, b, h2, h1, fun k hk => ?_, h5, h4, h6, h8, h7, h12, h11, h10, h9, h14, h13⟩
  cases hq : lab k with
  | out => rfl
  | _ => exact absurd (h3 k (by rw [hq]; simp)) hk
/-- The first one, to be turned. -/
theorem PB.open {W w : World} {za zb p q : Nat} {csa csb : Array Value} {t u : ST} (h : PB W w za zb p q csa csb t u) : ∃ lab a b, StAt w p t lab a b ∧ ∀ w' t', (∃ lab', StAt w' p t' lab' a b ∧ Went (fun k => lab k ≠ .out) (fun k => lab' k ≠ .out) w w') → PB W w' za zb p q csa csb t' u := by
  obtain ⟨lab, a, b, lab2, a2, b2, h1, h2, h3, h4, h5, h6, h7, h8, h9, h10, h11, h12, h13, h14⟩ := h
  refine ⟨lab, a, b, h1, fun w' t' ⟨lab', q1, q2⟩ => ?_⟩
  obtain ⟨r1, r2⟩ := went_mine h4 h6 q2
  refine ⟨lab', a, b, lab2, a2, b2, q1, h2.keeps q2.upd (fun k hk => h3 k hk), fun k hk => ?_, r1, h5, r2, q2.upd.keeps h7 (fun q => q h9), q2.upd.keeps h8 (fun q => q h11), out_went q2 h9 (heap_lt h7), h10, out_went q2 h11 (heap_lt h8), h12, h13, h14⟩
  rcases q2.new k hk with e | e
  · exact h3 k e
  · cases hq : lab2 k with
    | out => rfl
    | _ =>
      have := h2.lt k (by rw [hq]; simp)
      have e : w.heap.size ≤ k := e
      omega
/-- Both sets are new, and each one's box. -/
theorem PB.mk {W w1 w2 w3 w4 : World} {p q : Nat} {csa csb : Array Value} {t u : ST} (h : TMine W w1 p t) (e2 : w2 = w1.alloc (.cells csa 67)) (k : TMine w2 w3 q u) (e4 : w4 = w3.alloc (.cells csb 67)) : PB W w4 w1.heap.size w3.heap.size p q csa csb t u := by
  subst e2
  have hb1 : Below w1.heap.size w1 (w1.alloc (.cells csa 67)) := (Below.refl _ _).alloc (Nat.le_refl _) _
  have hb4 : Below w3.heap.size w3 w4 := by rw [e4]; exact (Below.refl _ _).alloc (Nat.le_refl _) _
  have ha := alloc_at w1 (.cells csa 67)
  have hz : (w1.alloc (.cells csa 67)).heap.size = w1.heap.size + 1 := by simp
  have ha4 : w4.heap[w3.heap.size]? = some (.cells csb 67 (0, 0)) := by rw [e4]; exact alloc_at w3 _
  obtain ⟨lab, a, b, h1, h2, h3⟩ := h
  obtain ⟨lab2, a2, b2, k1, k2, k3⟩ := k
  have s1 := h3.size
  have s3 := k3.size
  have kb := below_call k3 s3 hb4
  have hout : ∀ (l : Nat → Lab) (n : Nat), (∀ k, l k ≠ .out → k < n ∨ False) → l n = .out := fun l n hl => by
    cases hq : l n with
    | out => rfl
    | _ =>
      rcases hl n (by rw [hq]; simp) with q | q
      · omega
      · exact q.elim
  refine ⟨lab, a, b, lab2, a2, b2, (h1.below hb1).below kb, k1.below hb4, fun j hj => ?_, h2, fun j hj => by have := k2 j hj; omega, below_call h3 s1 (below_call hb1 (by omega) kb), below_keeps kb ha (heap_lt ha), ha4, hout lab _ (fun k hk => .inl (h1.lt k hk)), ?_, ?_, hout lab2 _ (fun k hk => .inl (k1.lt k hk)), s1, by omega⟩
  · cases hq : lab2 j with
    | out => rfl
    | _ =>
      have := k2 j (by rw [hq]; simp)
      have := h1.lt j hj
      omega
  · cases hq : lab2 w1.heap.size with
    | out => rfl
    | _ =>
      have := k2 w1.heap.size (by rw [hq]; simp)
      omega
  · cases hq : lab w3.heap.size with
    | out => rfl
    | _ =>
      have := h1.lt w3.heap.size (by rw [hq]; simp)
      omega
set_option maxRecDepth 100000 in
set_option maxHeartbeats 4000000 in
theorem pair_any (w : World) :
    Calls Try.prog 19 #[.int .i64 63, .int .i64 63] w fun e w' => ∃ za zb p q csa csb, e = .returned (.tuple #[.pointer (some ⟨za, 0, none⟩), .pointer (some ⟨zb, 0, none⟩)]) ∧ csa[0]? = some (.pointer (some ⟨p, 0, none⟩)) ∧ csb[0]? = some (.pointer (some ⟨q, 0, none⟩)) ∧ PB w w' za zb p q csa csb rT0 rU0 := by
  go_enter Try.func19, Try.ntmps19
  go_upto_region 1 with fail
  go_cut [6, 7] (fun v6 v7 wx => ∃ (za zb p q : Nat) (csa csb : Array Value), v6 = .pointer (some ⟨za, 0, none⟩) ∧ v7 = .pointer (some ⟨zb, 0, none⟩) ∧ csa[0]? = some (.pointer (some ⟨p, 0, none⟩)) ∧ csb[0]? = some (.pointer (some ⟨q, 0, none⟩)) ∧ PB w wx za zb p q csa csb (ST.new false (pmN 63)) (ST.new true (pmN 63)))
  case first =>
    go_wp2_with fail
    refine (params_any 63 (by omega) _).mono ?_
    rintro e w1 ⟨rfl, hb1⟩
    have HB1 := Lib.hid hb1
    clear hb1
    go_wp2_with fail
    refine (tnew_any false (pmN 63) pm63_ok _).mono ?_
    rintro e w2 ⟨p, rfl, hm⟩
    have HM2 := Lib.hid (hm.first HB1.out)
    clear hm
    go_wp2_with fail
    refine (params_any 63 (by omega) _).mono ?_
    rintro e w3 ⟨rfl, hb3⟩
    have HB3 := Lib.hid hb3
    clear hb3
    go_wp2_with fail
    refine (tnew_any true (pmN 63) pm63_ok _).mono ?_
    rintro e w4 ⟨q, rfl, hm⟩
    have HM4 := Lib.hid (hm.first HB3.out)
    clear hm
    go_wp2_with fail
    go_meet
    case rel => exact ⟨_, _, p, q, _, _, rfl, rfl, by rfl, by rfl, PB.mk HM2.out rfl HM4.out rfl⟩
  case rest =>
    obtain ⟨za, zb, p, q, csa, csb, rfl, rfl, ha0, hb0, hpb⟩ := hcut
    generalize wc = w5 at *
    have HP := Lib.hid hpb
    have a0 : w5.cell? ⟨za, 0, none⟩ = some (.pointer (some ⟨p, 0, none⟩)) := by
      obtain ⟨_, _, _, _, _, _, _, _, _, _, _, _, h, _⟩ := hpb
      exact (cell_at h 0).trans (by assumption)
    have b0 : w5.cell? ⟨zb, 0, none⟩ = some (.pointer (some ⟨q, 0, none⟩)) := by
      obtain ⟨_, _, _, _, _, _, _, _, _, _, _, _, _, h, _⟩ := hpb
      exact (cell_at h 0).trans (by assumption)
    clear hpb
    go_upto_region 4 with fail
    go_cut [] (fun wx => PB w wx za zb p q csa csb rT0 (ST.new true (pmN 63)))
    case first =>
      refine wp_region_till (S := fun w' => w'.cell? ⟨za, 0, none⟩ = some (.pointer (some ⟨p, 0, none⟩))) [6] (by kernel_rfl) (by first | exact a0 | exact b0) (fun hHeld => ?_)
      refine wpTill_take0 (i := 0) (oi := ⟨some 30, _, _, _, _, _⟩) (v := ?_) rfl (by kernel_rfl) (fun _ _ _ h => h) (Or.inl ⟨by rfl, ?_⟩) (fun _ => hHeld) ?_
      rotate_left
      · intro w hSw
        (try dsimp only at hSw)
        go_simp
        try with_reducible rfl
      try simp only [Act.put, List.setIfInBounds_toArray, List.set_cons_zero, List.set_cons_succ]
      refine wpTill_take0 (i := 1) (oi := ⟨some 31, _, _, _, _, _⟩) (v := ?_) rfl (by kernel_rfl) (fun _ _ _ h => h) (Or.inl ⟨by rfl, ?_⟩) (fun _ => hHeld) ?_
      rotate_left
      · intro w hSw
        (try dsimp only at hSw)
        go_simp
        try with_reducible rfl
      try simp only [Act.put, List.setIfInBounds_toArray, List.set_cons_zero, List.set_cons_succ]
      refine wpTill_take0 (i := 2) (oi := ⟨some 32, _, _, _, _, _⟩) (v := ?_) rfl (by kernel_rfl) (fun _ _ _ h => h) (Or.inl ⟨by rfl, ?_⟩) (fun _ => hHeld) ?_
      rotate_left
      · intro w hSw
        (try dsimp only at hSw)
        go_simp
        try with_reducible rfl
      try simp only [Act.put, List.setIfInBounds_toArray, List.set_cons_zero, List.set_cons_succ]
      refine wpTill_take (i := 3) (oi := ⟨some 33, _, _, _, _, _⟩) (v := ?_) rfl (by kernel_rfl) (fun _ _ _ h => h) (Or.inl ⟨by rfl, ?_⟩) (by exact hHeld) ?_
      rotate_left
      · intro w hSw
        (try dsimp only at hSw)
        go_simp
        try with_reducible rfl
      try simp only [Act.put, List.setIfInBounds_toArray, List.set_cons_zero, List.set_cons_succ]
      refine wpTill_take0 (i := 4) (oi := ⟨some 34, _, _, _, _, _⟩) (v := ?_) rfl (by kernel_rfl) (fun _ _ _ h => h) (Or.inl ⟨by rfl, ?_⟩) (fun _ => hHeld) ?_
      rotate_left
      · intro w hSw
        (try dsimp only at hSw)
        go_simp
        try with_reducible rfl
      try simp only [Act.put, List.setIfInBounds_toArray, List.set_cons_zero, List.set_cons_succ]
      refine wpTill_ready (rs := [5]) (by kernel_rfl) (by simp) ?_
      refine AllTill.cons (o := ⟨some 35, _, _, _, _, _⟩) rfl (fun K hK => ?_) AllTill.nil
      rw [if_pos (show Region.wanted _ _ = true from rfl)]
      go_simp
      go_at_call 8
      refine (params_any 63 (by omega) _).mono ?_
      rintro e w6 ⟨rfl, hb⟩
      have HQ := Lib.hid (HP.out.later (below_call ((Below.refl _ _).drew : Below w5.heap.size w5 w5.drew) (Nat.le_refl _) hb))
      have HSw6 := Lib.hid (cell_keep hb (cell_lt1 hHeld) hHeld)
      clear hb
      go_simp
      refine hK.out _ _ (by exact HSw6.out) (fun hHeld => ?_)
      clear hK K
      try simp only [Act.put, List.setIfInBounds_toArray, List.set_cons_zero, List.set_cons_succ]
      refine wpTill_ready (rs := [6]) (by kernel_rfl) (by simp) ?_
      refine AllTill.consD (o := ⟨some 36, _, _, _, _, _⟩) rfl (by kernel_rfl) (fun K hK => ?_) AllTill.nil
      rw [if_pos (show Region.wanted _ _ = true from rfl)]
      go_simp
      go_at_call 9
      obtain ⟨lab, a, b, hs, hgo⟩ := HQ.out.open
      have HG := Lib.hid hgo
      clear hgo
      refine (tallow_any p _ lab a b (pmN 63) _ hs pm63_ok rfl rfl).mono ?_
      rintro e w7 ⟨rfl, hs7, hu7⟩
      have HR := Lib.hid (HG.out _ _ ⟨lab, hs7, hu7, fun k hk => .inl hk⟩)
      clear hs hs7 hu7 HG
      go_simp
      refine hK.out _ _ ?_
      clear hK K
      try simp only [Act.put, List.setIfInBounds_toArray, List.set_cons_zero, List.set_cons_succ]
      refine wpTill_done (by kernel_rfl) ?_ _
      go_wp2_with fail
      go_meet
      case rel => exact HR.out
    case rest =>
      generalize wc = w8 at *
      have HP8 := Lib.hid hcut
      have a8 : w8.cell? ⟨za, 0, none⟩ = some (.pointer (some ⟨p, 0, none⟩)) := by
        obtain ⟨_, _, _, _, _, _, _, _, _, _, _, _, h, _⟩ := hcut
        exact (cell_at h 0).trans (by assumption)
      have b8 : w8.cell? ⟨zb, 0, none⟩ = some (.pointer (some ⟨q, 0, none⟩)) := by
        obtain ⟨_, _, _, _, _, _, _, _, _, _, _, _, _, h, _⟩ := hcut
        exact (cell_at h 0).trans (by assumption)
      clear hcut HP a0 b0
      go_upto_region 5 with fail
      go_cut [] (fun wx => PB w wx za zb p q csa csb rT0 rU0)
      case first =>
        refine wp_region_till (S := fun w' => w'.cell? ⟨zb, 0, none⟩ = some (.pointer (some ⟨q, 0, none⟩))) [6] (by kernel_rfl) (by first | exact b8) (fun hHeld => ?_)
        refine wpTill_take0 (i := 0) (oi := ⟨some 37, _, _, _, _, _⟩) (v := ?_) rfl (by kernel_rfl) (fun _ _ _ h => h) (Or.inl ⟨by rfl, ?_⟩) (fun _ => hHeld) ?_
        rotate_left
        · intro w hSw
          (try dsimp only at hSw)
          go_simp
          try with_reducible rfl
        try simp only [Act.put, List.setIfInBounds_toArray, List.set_cons_zero, List.set_cons_succ]
        refine wpTill_take0 (i := 1) (oi := ⟨some 38, _, _, _, _, _⟩) (v := ?_) rfl (by kernel_rfl) (fun _ _ _ h => h) (Or.inl ⟨by rfl, ?_⟩) (fun _ => hHeld) ?_
        rotate_left
        · intro w hSw
          (try dsimp only at hSw)
          go_simp
          try with_reducible rfl
        try simp only [Act.put, List.setIfInBounds_toArray, List.set_cons_zero, List.set_cons_succ]
        refine wpTill_take0 (i := 2) (oi := ⟨some 39, _, _, _, _, _⟩) (v := ?_) rfl (by kernel_rfl) (fun _ _ _ h => h) (Or.inl ⟨by rfl, ?_⟩) (fun _ => hHeld) ?_
        rotate_left
        · intro w hSw
          (try dsimp only at hSw)
          go_simp
          try with_reducible rfl
        try simp only [Act.put, List.setIfInBounds_toArray, List.set_cons_zero, List.set_cons_succ]
        refine wpTill_take (i := 3) (oi := ⟨some 40, _, _, _, _, _⟩) (v := ?_) rfl (by kernel_rfl) (fun _ _ _ h => h) (Or.inl ⟨by rfl, ?_⟩) (by exact hHeld) ?_
        rotate_left
        · intro w hSw
          (try dsimp only at hSw)
          go_simp
          try with_reducible rfl
        try simp only [Act.put, List.setIfInBounds_toArray, List.set_cons_zero, List.set_cons_succ]
        refine wpTill_take0 (i := 4) (oi := ⟨some 41, _, _, _, _, _⟩) (v := ?_) rfl (by kernel_rfl) (fun _ _ _ h => h) (Or.inl ⟨by rfl, ?_⟩) (fun _ => hHeld) ?_
        rotate_left
        · intro w hSw
          (try dsimp only at hSw)
          go_simp
          try with_reducible rfl
        try simp only [Act.put, List.setIfInBounds_toArray, List.set_cons_zero, List.set_cons_succ]
        refine wpTill_ready (rs := [5]) (by kernel_rfl) (by simp) ?_
        refine AllTill.cons (o := ⟨some 42, _, _, _, _, _⟩) rfl (fun K hK => ?_) AllTill.nil
        rw [if_pos (show Region.wanted _ _ = true from rfl)]
        go_simp
        go_at_call 8
        refine (params_any 63 (by omega) _).mono ?_
        rintro e w9 ⟨rfl, hb⟩
        have HQ := Lib.hid (HP8.out.later (below_call ((Below.refl _ _).drew : Below w8.heap.size w8 w8.drew) (Nat.le_refl _) hb))
        have HSw9 := Lib.hid (cell_keep hb (cell_lt1 hHeld) hHeld)
        clear hb
        go_simp
        refine hK.out _ _ (by exact HSw9.out) (fun hHeld => ?_)
        clear hK K
        try simp only [Act.put, List.setIfInBounds_toArray, List.set_cons_zero, List.set_cons_succ]
        refine wpTill_ready (rs := [6]) (by kernel_rfl) (by simp) ?_
        refine AllTill.consD (o := ⟨some 43, _, _, _, _, _⟩) rfl (by kernel_rfl) (fun K hK => ?_) AllTill.nil
        rw [if_pos (show Region.wanted _ _ = true from rfl)]
        go_simp
        go_at_call 9
        obtain ⟨lab, a, b, hs, hgo⟩ := HQ.out.swap.open
        have HG := Lib.hid hgo
        clear hgo
        refine (tallow_any q _ lab a b (pmN 63) _ hs pm63_ok rfl rfl).mono ?_
        rintro e w10 ⟨rfl, hs7, hu7⟩
        have HR := Lib.hid (HG.out _ _ ⟨lab, hs7, hu7, fun k hk => .inl hk⟩)
        clear hs hs7 hu7 HG
        go_simp
        refine hK.out _ _ ?_
        clear hK K
        try simp only [Act.put, List.setIfInBounds_toArray, List.set_cons_zero, List.set_cons_succ]
        refine wpTill_done (by kernel_rfl) ?_ _
        go_wp2_with fail
        go_meet
        case rel => exact HR.out.swap
      case rest =>
        have HP9 := Lib.hid hcut
        clear hcut
        go_wp2_with fail
        go_ret2
        exact ⟨za, zb, p, q, csa, csb, rfl, ha0, hb0, HP9.out⟩
end Go.Proofs.Ytfdgamlakfkekaa

/- DERIVED. A slice of bytes that is made. -/
namespace Go.Proofs.Ytfdgamlakfkekaa
open Go.RowKit

theorem make_bytes (n : Nat) (h : n ≤ 1000) : ∃ Z : Array Value, (∀ w : World, (Instr.makeSlice 36 (.int .i64 (n : Int)) (.int .i64 (n : Int))).run Try.prog w = .ok (.slice (some ⟨w.heap.size, 0, none⟩) n n) (w.alloc (.cells Z 5))) ∧ Z.toList = flat encB (List.replicate n 0) := by
  obtain ⟨i0, hi0, hz0, hz1, hz2'⟩ := info_parts infoB
  refine ⟨madeCells (Value.int .u8 0).cells n, fun w => ?_, ?_⟩
  · have := run_make (P := Try.prog) w 36 5 i0 _ Try.underlying36 hi0 hz0 .i64 .i64 n n (by omega) (by omega) (by rw [hz2']; omega) (by omega)
    rw [this, hz1]
    simp
  · show (madeCells #[Value.int .u8 0] n).toList = _
    rw [toList_madeCells_one, flatB, List.map_replicate]
    rfl
end Go.Proofs.Ytfdgamlakfkekaa

/- DERIVED. Walk of narthexlaw18's StreamsRing (printed by mkstring.py). -/
namespace Go.Proofs.Ytfdgamlakfkekaa
open Go.RowKit

/-- The last call that told of a stream. -/
def lastC (k i s : Nat) : Nat := if s % 4 = 0 ∧ s / 4 < k ∧ tau k i (s / 4) ≠ 0 then (tau k i (s / 4) - 1) * k + s / 4 + 1 else 0
def lastA (k i : Nat) : Array Value := ((List.range 40).map fun s => Value.int .i64 (lastC k i s : Nat)).toArray
theorem tau_now {k i : Nat} (hk : 0 < k) : tau k i (i % k) = i / k := by
  unfold tau
  have hm := Nat.mod_lt i hk
  have hq := Nat.div_add_mod i k
  obtain ⟨q, hqe⟩ : ∃ q, i / k = q := ⟨_, rfl⟩
  obtain ⟨m, hme⟩ : ∃ m, i % k = m := ⟨_, rfl⟩
  rw [hqe, hme] at hq
  rw [hme] at hm
  rw [hqe, hme, ← hq, show k * q + m + (k - 1 - m) = (k - 1) + k * q from by omega, Nat.add_mul_div_left _ _ hk, Nat.div_eq_of_lt (by omega)]
  omega
theorem lastC_now {k i : Nat} (hk : 0 < k) (hi : k ≤ i) : lastC k i (4 * (i % k)) = i + 1 - k := by
  unfold lastC
  have hm := Nat.mod_lt i hk
  have hq := Nat.div_add_mod i k
  have e : 4 * (i % k) / 4 = i % k := by omega
  have h1 : 1 ≤ i / k := (Nat.le_div_iff_mul_le hk).2 (by omega)
  rw [e, tau_now hk, if_pos ⟨by omega, hm, by omega⟩]
  obtain ⟨q, hqe⟩ : ∃ q, i / k = q + 1 := ⟨i / k - 1, by omega⟩
  rw [hqe] at hq ⊢
  rw [Nat.add_sub_cancel, Nat.mul_comm q k]
  rw [Nat.mul_succ] at hq
  omega
theorem lastA_zero (k : Nat) : lastA k 0 = ((List.range 40).map fun _ => Value.int .i64 0).toArray := by
  unfold lastA
  congr 1
  apply List.map_congr_left
  intro s _
  unfold lastC
  rw [if_neg]
  · rfl
  · rintro ⟨_, h2, h3⟩
    exact h3 (tau0 h2)
theorem lastA_at {k i s : Nat} (hs : s < 40) : (lastA k i)[s]? = some (.int .i64 (lastC k i s : Nat)) := by
  unfold lastA
  rw [List.getElem?_toArray, List.getElem?_map, List.getElem?_range hs]
  rfl
theorem lastA_set {k i : Nat} (hk : 0 < k) (hk8 : k ≤ 8) : (lastA k i).setIfInBounds (4 * (i % k)) (.int .i64 (i + 1 : Nat)) = lastA k (i + 1) := by
  have hm := Nat.mod_lt i hk
  apply Array.ext_getElem?
  intro s
  rw [Array.getElem?_setIfInBounds]
  have hsz : ∀ j, (lastA k j).size = 40 := fun j => by unfold lastA; simp
  by_cases hs : s < 40
  · by_cases h : 4 * (i % k) = s
    · rw [if_pos h, if_pos (by rw [hsz]; omega), lastA_at hs]
      subst h
      unfold lastC
      have e : 4 * (i % k) / 4 = i % k := by omega
      rw [e, tau_step hk _ hm, if_pos rfl, if_pos ⟨by omega, hm, by omega⟩, tau_now hk, Nat.add_sub_cancel, Nat.mul_comm, Nat.div_add_mod]
    · rw [if_neg h, lastA_at hs, lastA_at hs]
      unfold lastC
      by_cases h2 : s % 4 = 0 ∧ s / 4 < k
      · rw [show tau k (i + 1) (s / 4) = tau k i (s / 4) from by rw [tau_step hk _ h2.2, if_neg (by omega)]]
      · rw [if_neg (fun q => h2 ⟨q.1, q.2.1⟩), if_neg (fun q => h2 ⟨q.1, q.2.1⟩)]
  · rw [if_neg (by omega), Array.getElem?_eq_none (by rw [hsz]; omega), Array.getElem?_eq_none (by rw [hsz]; omega)]
/-- a, and the row of those that were told last. -/
def LB (W w : World) (za p zl : Nat) (t : ST) (L : Array Value) : Prop := ∃ lab a b, StAt w p t lab a b ∧ (∀ k, lab k ≠ .out → W.heap.size ≤ k) ∧ Below W.heap.size W w ∧ w.cell? ⟨za, 0, none⟩ = some (.pointer (some ⟨p, 0, none⟩)) ∧ lab za = .out ∧ lab zl = .out ∧ w.heap[zl]? = some (.cells L 71 (0, 0)) ∧ W.heap.size ≤ zl
theorem LB.later {W w w' : World} {za p zl : Nat} {t : ST} {L : Array Value} (h : LB W w za p zl t L) (hb : Below w.heap.size w w') : LB W w' za p zl t L := by
  obtain ⟨lab, a, b, h1, h2, h3, h4, h5, h6, h7, h8⟩ := h
  exact ⟨lab, a, b, h1.below hb, h2, below_call h3 h3.size hb, cell_keep hb (cell_lt1 h4) h4, h5, h6, below_keeps hb h7 (heap_lt h7), h8⟩
theorem LB.open {W w : World} {za p zl : Nat} {t : ST} {L : Array Value} (h : LB W w za p zl t L) : ∃ lab a b, StAt w p t lab a b ∧ ∀ w' t', (∃ lab', StAt w' p t' lab' a b ∧ Went (fun k => lab k ≠ .out) (fun k => lab' k ≠ .out) w w') → LB W w' za p zl t' L := by
  obtain ⟨lab, a, b, h1, h2, h3, h4, h5, h6, h7, h8⟩ := h
  refine ⟨lab, a, b, h1, fun w' t' ⟨lab', q1, q2⟩ => ?_⟩
  obtain ⟨r1, r2⟩ := went_mine h2 h3 q2
  exact ⟨lab', a, b, q1, r1, r2, cell_updY q2.upd h4 (fun q => q h5) (cell_lt1 h4), out_went q2 h5 (cell_lt1 h4), out_went q2 h6 (heap_lt h7), q2.upd.keeps h7 (fun q => q h6), h8⟩
theorem LB.bd {W w : World} {za p zl : Nat} {t : ST} {L : Array Value} (h : LB W w za p zl t L) : Below W.heap.size W w := by
  obtain ⟨_, _, _, _, _, h, _⟩ := h
  exact h
theorem LB.a0 {W w : World} {za p zl : Nat} {t : ST} {L : Array Value} (h : LB W w za p zl t L) : w.cell? ⟨za, 0, none⟩ = some (.pointer (some ⟨p, 0, none⟩)) := by
  obtain ⟨_, _, _, _, _, _, h, _⟩ := h
  exact h
theorem LB.row {W w : World} {za p zl : Nat} {t : ST} {L : Array Value} (h : LB W w za p zl t L) : w.heap[zl]? = some (.cells L 71 (0, 0)) := by
  obtain ⟨_, _, _, _, _, _, _, _, _, h, _⟩ := h
  exact h
theorem PB.bd {W w : World} {za zb p q : Nat} {csa csb : Array Value} {t u : ST} (h : PB W w za zb p q csa csb t u) : Below W.heap.size W w := by
  obtain ⟨_, _, _, _, _, _, _, _, _, _, _, h, _⟩ := h
  exact h
theorem PB.a0 {W w : World} {za zb p q : Nat} {csa csb : Array Value} {t u : ST} (h : PB W w za zb p q csa csb t u) (ha : csa[0]? = some (.pointer (some ⟨p, 0, none⟩))) : w.cell? ⟨za, 0, none⟩ = some (.pointer (some ⟨p, 0, none⟩)) := by
  obtain ⟨_, _, _, _, _, _, _, _, _, _, _, _, h, _⟩ := h
  exact (cell_at h 0).trans ha
theorem LB.mk {W w : World} {za zb p q : Nat} {csa csb : Array Value} {t u : ST} (h : PB W w za zb p q csa csb t u) (ha : csa[0]? = some (.pointer (some ⟨p, 0, none⟩))) {L : Array Value} : LB W (w.alloc (.cells L 71)) za p w.heap.size t L := by
  have a0 := h.a0 ha
  obtain ⟨lab, a, b, lab2, a2, b2, h1, h2, h3, h4, h5, h6, h7, h8, h9, h10, h11, h12, h13, h14⟩ := h
  have hb : Below w.heap.size w (w.alloc (.cells L 71)) := (Below.refl _ _).alloc (Nat.le_refl _) _
  refine ⟨lab, a, b, h1.below hb, h4, below_call h6 h6.size hb, cell_keep hb (cell_lt1 a0) a0, h9, ?_, alloc_at w _, h6.size⟩
  cases hq : lab w.heap.size with
  | out => rfl
  | _ => have := h1.lt w.heap.size (by rw [hq]; simp); omega
theorem LB.set {W w : World} {za p zl : Nat} {t : ST} {L : Array Value} (h : LB W w za p zl t L) (hne : za ≠ zl) (i : Nat) (v : Value) : LB W (w.setCell ⟨zl, i, none⟩ v) za p zl t (L.setIfInBounds i v) := by
  obtain ⟨lab, a, b, h1, h2, h3, h4, h5, h6, h7, h8⟩ := h
  refine ⟨lab, a, b, h1.keeps (F := fun k => k = zl) ((Upd.refl (fun k => k = zl) w).setCell ⟨zl, i, none⟩ (.inl rfl) v) (fun k hk => by rw [show k = zl from hk]; exact h6), h2, h3.setCell (p := ⟨zl, i, none⟩) h8 v, ?_, h5, h6, ?_, h8⟩
  · exact cell_updY (F := fun k => k = zl) ((Upd.refl (fun k => k = zl) w).setCell ⟨zl, i, none⟩ (.inl rfl) v) h4 hne (cell_lt1 h4)
  · exact set_at h7 i v
theorem exec_make {P : Program} {f : Operand → Value} {o : Oper} {t : TypeId} {l c : Operand} {v : Value} {w W : World} (ho : o.op = .makeSlice t l c) (h : (Instr.makeSlice t (f l) (f c)).run P w = .ok v W) : (execOp f o).run P w = .ok (.value v) W := by
  simp [execOp, ho, h]
set_option maxRecDepth 100000 in
set_option maxHeartbeats 4000000 in
theorem ring_walk (n : Int) (vd : Value) (dd : List Nat) (w : World) (hn : -9223372036854775808 ≤ n) (hn2 : n ≤ 9223372036854775807) (hd : Vw encB w w.heap.size vd dd) (hby : Bys dd) :
    Calls Try.prog 5 #[.int .i64 n, vd] w fun e w' => e = .returned (.bool true) ∧ Below w.heap.size w w' := by
  obtain ⟨i0, hi0, hz0, hz1, hz2'⟩ := info_parts infoB
  obtain ⟨Z, hZ, hZl⟩ := make_bytes 400 (by omega)
  have HZL := Lib.hid hZl
  have hZrun : ∀ w : World, (Instr.makeSlice 36 (.int .i64 400) (.int .i64 400)).run Try.prog w = .ok (.slice (some ⟨w.heap.size, 0, none⟩) (List.replicate 400 0).length (List.replicate 400 0).length) (w.alloc (.cells Z 5)) := fun w => by
    rw [List.length_replicate]
    exact hZ w
  clear hZl hZ
  obtain ⟨k, hk, hk1, hk8⟩ : ∃ k : Nat, withinS n 1 8 = k ∧ 1 ≤ k ∧ k ≤ 8 := ⟨(withinS n 1 8).toNat, by have := withinS_bd n 1 8 (by omega); omega, by have := withinS_bd n 1 8 (by omega); omega, by have := withinS_bd n 1 8 (by omega); omega⟩
  have HK := Lib.hid hk
  clear hk
  obtain ⟨od, nd, cd, rfl, hnd, hcd, hcd2, hfront⟩ := kcut_v hd 50 (by omega)
  obtain ⟨dn, hdn, hdn2, hdn3⟩ : ∃ dn, min nd 50 = dn ∧ dn ≤ 50 ∧ dn ≤ cd := ⟨_, rfl, by omega, by omega⟩
  rw [hdn] at hfront
  have HDF := Lib.hid hfront
  have HDN := Lib.hid hdn
  have HDL := Lib.hid (show (dd.take 50).length = dn by rw [List.length_take]; omega)
  obtain ⟨D, hD⟩ : ∃ D, List.replicate 400 0 ++ dd.take 50 = D := ⟨_, rfl⟩
  have HD := Lib.hid hD
  have HDLN := Lib.hid (show 400 ≤ D.length ∧ D.length ≤ 450 ∧ (List.replicate 400 0 ++ dd.take 50).length = 400 + dn from by
    rw [← hD, List.length_append, List.length_replicate, HDL.out]
    omega)
  have HDB := Lib.hid (show Bys (List.replicate 400 0 ++ dd.take 50) from fun x hx => by
    rcases List.mem_append.1 hx with q | q
    · rw [List.mem_replicate] at q
      omega
    · exact hby x (List.mem_of_mem_take q))
  clear hfront hdn hD hnd hd hby
  go_enter Try.func5, Try.ntmps5
  go_wp2_with fail
  refine (pair_any _).mono ?_
  rintro e w1 ⟨za, zb, p, q, csa, csb, rfl, ha0, hb0, hpb⟩
  have HP1 := Lib.hid hpb
  clear hpb
  go_wp2_with fail
  refine (within_any n 1 8 _ (by omega) (by omega) (by omega) hn hn2).mono ?_
  rw [HK.out]
  rintro e w' ⟨rfl, hw⟩
  obtain rfl := hw
  go_wp2_with fail
  go_loopw [8] (fun i wr => ∃ c : Nat, i = .int .i64 c ∧ c ≤ k ∧ PB w wr za zb p q csa csb (rT c 0 D) rU0) (fun i _ => k - (intOf i).toNat)
  case atStart => exact ⟨0, rfl, by omega, by rw [rT_zero]; exact HP1.out⟩
  case round =>
    obtain ⟨c, rfl, hc, hpb⟩ := hrel
    have HP := Lib.hid hpb
    have a1 := hpb.a0 ha0
    clear hpb HP1
    by_cases hlt : c < k
    · as_aux_lemma =>
        have hc8 : c < 8 := by omega
        go_wp2_with fail
        obtain ⟨lab, a, b, hs, hgo⟩ := HP.out.open
        have HG := Lib.hid hgo
        refine (tOpen_any p _ lab a b _ hs (by rw [rT_own0]; omega)).mono ?_
        rw [rT_opnV hc8]
        rintro e w6 ⟨rfl, hr⟩
        have HP6 := Lib.hid (show PB w w6 za zb p q csa csb (rT c 0 D).opn rU0 from HG.out _ _ hr)
        have HPB := Lib.hid HP6.out.bd
        have a6 := HP6.out.a0 ha0
        have HBd := Lib.hid (show Below w6.heap.size w6 w6.drew from (Below.refl _ _).drew)
        clear hs hgo hr HG HP lab a b a1
        go_upto_region 11 with fail
        go_cut [12] (fun v wx => v = .int .i64 0 ∧ PB w wx za zb p q csa csb (rT (c + 1) 0 D) rU0)
        case first =>
          refine wp_region_till (S := fun w' => w'.cell? ⟨za, 0, none⟩ = some (.pointer (some ⟨p, 0, none⟩))) [9] (by kernel_rfl) (by exact a6) (fun hHeld => ?_)
          refine wpTill_take0 (i := 0) (oi := ⟨some 41, _, _, _, _, _⟩) (v := ?_) rfl (by kernel_rfl) (fun _ _ _ h => h) (Or.inl ⟨by rfl, ?_⟩) (fun _ => hHeld) ?_
          rotate_left
          · intro w hSw
            (try dsimp only at hSw)
            go_simp
            try with_reducible rfl
          try simp only [Act.put, List.setIfInBounds_toArray, List.set_cons_zero, List.set_cons_succ]
          refine wpTill_take0 (i := 1) (oi := ⟨some 42, _, _, _, _, _⟩) (v := ?_) rfl (by kernel_rfl) (fun _ _ _ h => h) (Or.inl ⟨by rfl, ?_⟩) (fun _ => hHeld) ?_
          rotate_left
          · intro w hSw
            (try dsimp only at hSw)
            go_simp
            try with_reducible rfl
          try simp only [Act.put, List.setIfInBounds_toArray, List.set_cons_zero, List.set_cons_succ]
          refine wpTill_take0 (i := 2) (oi := ⟨some 43, _, _, _, _, _⟩) (v := ?_) rfl (by kernel_rfl) (fun _ _ _ h => h) (Or.inl ⟨by rfl, ?_⟩) (fun _ => hHeld) ?_
          rotate_left
          · intro w hSw
            (try dsimp only at hSw)
            go_simp
            try with_reducible rfl
          try simp only [Act.put, List.setIfInBounds_toArray, List.set_cons_zero, List.set_cons_succ]
          refine wpTill_take (i := 3) (oi := ⟨some 44, _, _, _, _, _⟩) (v := ?_) rfl (by kernel_rfl) (fun _ _ _ h => h) (Or.inl ⟨by rfl, ?_⟩) (by exact hHeld) ?_
          rotate_left
          · intro w hSw
            (try dsimp only at hSw)
            go_simp
            try with_reducible rfl
          try simp only [Act.put, List.setIfInBounds_toArray, List.set_cons_zero, List.set_cons_succ]
          refine wpTill_take0 (i := 4) (oi := ⟨some 45, _, _, _, _, _⟩) (v := ?_) rfl (by kernel_rfl) (fun _ _ _ h => h) (Or.inl ⟨by rfl, ?_⟩) (fun _ => hHeld) ?_
          rotate_left
          · intro w hSw
            (try dsimp only at hSw)
            go_simp
            try with_reducible rfl
          try simp only [Act.put, List.setIfInBounds_toArray, List.set_cons_zero, List.set_cons_succ]
          refine wpTill_take0 (i := 6) (oi := ⟨some 47, _, _, _, _, _⟩) (v := ?_) rfl (by kernel_rfl) (fun _ _ _ h => h) (Or.inl ⟨by rfl, ?_⟩) (fun _ => hHeld) ?_
          rotate_left
          · intro w hSw
            (try dsimp only at hSw)
            go_simp
            try with_reducible rfl
          try simp only [Act.put, List.setIfInBounds_toArray, List.set_cons_zero, List.set_cons_succ]
          refine wpTill_ready (rs := [5, 7]) (by kernel_rfl) (by simp) ?_
          refine AllTill.cons (o := ⟨some 46, _, _, _, _, _⟩) rfl (fun K hK => ?_) ?_
          · refine step_fresh (enc := encB) (E := 5) rfl (List.replicate 400 0) Z HZL.out (by simp) (exec_make rfl (by exact hZrun _)) ?_
            intro W5 v5 g5 f5 hg5 hx5
            have F5 := Lib.hid f5
            have HB5 := Lib.hid (below_call HBd.out HBd.out.size hx5)
            have HG5 := Lib.hid (show w6.heap.size ≤ g5 from Nat.le_trans HBd.out.size hg5)
            have S5 := Lib.hid (cell_keep HB5.out (cell_lt1 a6) a6)
            clear f5 hg5 hx5
            refine hK.out _ _ (by exact S5.out) (fun hHeld => ?_)
            clear hK K
            try simp only [Act.put, List.setIfInBounds_toArray, List.set_cons_zero, List.set_cons_succ]
            refine wpTill_ready (rs := [7]) (by kernel_rfl) (by simp) ?_
            refine AllTill.cons (o := ⟨some 48, _, _, _, _, _⟩) rfl (fun K hK => ?_) AllTill.nil
            rw [if_pos (show Region.wanted _ _ = true from rfl)]
            go_simp
            go_at_call 21
            refine (kcut_q od nd cd 50 _ hcd hcd2 (by omega)).mono ?_
            rw [HDN.out]
            rintro e w' ⟨rfl, hw⟩
            obtain rfl := hw
            go_simp
            refine hK.out _ _ (by exact hHeld) (fun hHeld => ?_)
            clear hK K
            try simp only [Act.put, List.setIfInBounds_toArray, List.set_cons_zero, List.set_cons_succ]
            refine wpTill_ready (rs := [8]) (by kernel_rfl) (by simp) ?_
            refine AllTill.cons (o := ⟨some 49, _, _, _, _, _⟩) rfl (fun K hK => ?_) AllTill.nil
            refine step_pushV encB_len encB_one Try.underlying36 hi0 hz1 hz0 zeroB rfl (.tmp 46) (.tmp 48) rfl (by exact F5.out) (by exact HDF.out.below (below_call HPB.out HPB.out.size HB5.out)) rfl rfl (by rw [List.length_replicate, HDL.out, hz2']; omega) (by rw [List.length_replicate, HDL.out]; omega) ?_
            intro W8 v8 og8 f8 ho8 hu8
            have HB8 := Lib.hid (Upd.belowOf HB5.out hu8 (fun k hk q => by cases q; have := HG5.out; omega))
            have F8 := Lib.hid f8
            have S8 := Lib.hid (cell_keep HB8.out (cell_lt1 a6) a6)
            clear f8 ho8 hu8
            refine hK.out _ _ (by exact S8.out) (fun hHeld => ?_)
            clear hK K
            try simp only [Act.put, List.setIfInBounds_toArray, List.set_cons_zero, List.set_cons_succ]
            refine wpTill_ready (rs := [9]) (by kernel_rfl) (by simp) ?_
            refine AllTill.consD (o := ⟨some 50, _, _, _, _, _⟩) rfl (by kernel_rfl) (fun K hK => ?_) AllTill.nil
            rw [if_pos (show Region.wanted _ _ = true from rfl)]
            go_simp
            go_at_call 20
            obtain ⟨lab, a, b, hs, hgo⟩ := (HP6.out.later HB8.out).open
            have HG := Lib.hid hgo
            clear hgo
            refine (twrite_any p _ lab a b (4 * c) v8 _ _ hs (by omega) (by exact F8.out.vw) (Nat.le_refl _) HDB.out (by rw [HDLN.out.2.2]; omega) (fun x hx => ?_)).mono ?_
            · rw [rT_find hc8] at hx
              cases hx
              exact ⟨Nat.zero_le _, Nat.zero_le _⟩
            rw [HDLN.out.2.2, rT_wrR hc8 _ _ (by omega), HD.out, rT_wr hc8 _ (by have := HDLN.out.2.1; omega)]
            rintro e w9 ⟨rfl, hr⟩
            have HP9 := Lib.hid (HG.out _ _ hr)
            clear hs hr HG
            go_simp
            refine hK.out _ _ ?_
            clear hK K
            try simp only [Act.put, List.setIfInBounds_toArray, List.set_cons_zero, List.set_cons_succ]
            refine wpTill_take0 (i := 10) (oi := ⟨some 40, _, _, _, _, _⟩) (v := ?_) rfl (by kernel_rfl) (fun _ _ _ h => h) (Or.inl ⟨by rfl, ?_⟩) (fun h => Bool.noConfusion (h.symm.trans (show _ = true by kernel_rfl))) ?_
            rotate_left
            · intro w hSw
              (try dsimp only at hSw)
              go_simp
              try with_reducible rfl
            try simp only [Act.put, List.setIfInBounds_toArray, List.set_cons_zero, List.set_cons_succ]
            refine wpTill_take0 (i := 11) (oi := ⟨some 51, _, _, _, _, _⟩) (v := ?_) rfl (by kernel_rfl) (fun _ _ _ h => h) (Or.inl ⟨by rfl, ?_⟩) (fun h => Bool.noConfusion (h.symm.trans (show _ = true by kernel_rfl))) ?_
            rotate_left
            · intro w hSw
              (try dsimp only at hSw)
              go_simp
              try with_reducible rfl
            try simp only [Act.put, List.setIfInBounds_toArray, List.set_cons_zero, List.set_cons_succ]
            refine wpTill_take0 (i := 12) (oi := ⟨some 52, _, _, _, _, _⟩) (v := ?_) rfl (by kernel_rfl) (fun _ _ _ h => h) (Or.inl ⟨by rfl, ?_⟩) (fun h => Bool.noConfusion (h.symm.trans (show _ = true by kernel_rfl))) ?_
            rotate_left
            · intro w hSw
              (try dsimp only at hSw)
              go_simp
              try with_reducible rfl
            try simp only [Act.put, List.setIfInBounds_toArray, List.set_cons_zero, List.set_cons_succ]
            refine wpTill_take0 (i := 13) (oi := ⟨some 11, _, _, _, _, _⟩) (v := ?_) rfl (by kernel_rfl) (fun _ _ _ h => h) (Or.inl ⟨by rfl, ?_⟩) (fun h => Bool.noConfusion (h.symm.trans (show _ = true by kernel_rfl))) ?_
            rotate_left
            · intro w hSw
              (try dsimp only at hSw)
              go_simp
              try with_reducible rfl
            try simp only [Act.put, List.setIfInBounds_toArray, List.set_cons_zero, List.set_cons_succ]
            refine wpTill_take0 (i := 14) (oi := ⟨some 12, _, _, _, _, _⟩) (v := ?_) rfl (by kernel_rfl) (fun _ _ _ h => h) (Or.inl ⟨by rfl, ?_⟩) (fun h => Bool.noConfusion (h.symm.trans (show _ = true by kernel_rfl))) ?_
            rotate_left
            · intro w hSw
              (try dsimp only at hSw)
              go_simp
              try with_reducible rfl
            try simp only [Act.put, List.setIfInBounds_toArray, List.set_cons_zero, List.set_cons_succ]
            refine wpTill_done (by kernel_rfl) ?_ _
            go_wp2_with fail
            go_meet
            case rel => exact ⟨rfl, HP9.out⟩
          refine AllTill.cons (o := ⟨some 48, _, _, _, _, _⟩) rfl (fun K hK => ?_) ?_
          · rw [if_pos (show Region.wanted _ _ = true from rfl)]
            go_simp
            go_at_call 21
            refine (kcut_q od nd cd 50 _ hcd hcd2 (by omega)).mono ?_
            rw [HDN.out]
            rintro e w' ⟨rfl, hw⟩
            obtain rfl := hw
            go_simp
            refine hK.out _ _ (by exact hHeld) (fun hHeld => ?_)
            clear hK K
            try simp only [Act.put, List.setIfInBounds_toArray, List.set_cons_zero, List.set_cons_succ]
            refine wpTill_ready (rs := [5]) (by kernel_rfl) (by simp) ?_
            refine AllTill.cons (o := ⟨some 46, _, _, _, _, _⟩) rfl (fun K hK => ?_) AllTill.nil
            refine step_fresh (enc := encB) (E := 5) rfl (List.replicate 400 0) Z HZL.out (by simp) (exec_make rfl (by exact hZrun _)) ?_
            intro W5 v5 g5 f5 hg5 hx5
            have F5 := Lib.hid f5
            have HB5 := Lib.hid (below_call HBd.out HBd.out.size hx5)
            have HG5 := Lib.hid (show w6.heap.size ≤ g5 from Nat.le_trans HBd.out.size hg5)
            have S5 := Lib.hid (cell_keep HB5.out (cell_lt1 a6) a6)
            clear f5 hg5 hx5
            refine hK.out _ _ (by exact S5.out) (fun hHeld => ?_)
            clear hK K
            try simp only [Act.put, List.setIfInBounds_toArray, List.set_cons_zero, List.set_cons_succ]
            refine wpTill_ready (rs := [8]) (by kernel_rfl) (by simp) ?_
            refine AllTill.cons (o := ⟨some 49, _, _, _, _, _⟩) rfl (fun K hK => ?_) AllTill.nil
            refine step_pushV encB_len encB_one Try.underlying36 hi0 hz1 hz0 zeroB rfl (.tmp 46) (.tmp 48) rfl (by exact F5.out) (by exact HDF.out.below (below_call HPB.out HPB.out.size HB5.out)) rfl rfl (by rw [List.length_replicate, HDL.out, hz2']; omega) (by rw [List.length_replicate, HDL.out]; omega) ?_
            intro W8 v8 og8 f8 ho8 hu8
            have HB8 := Lib.hid (Upd.belowOf HB5.out hu8 (fun k hk q => by cases q; have := HG5.out; omega))
            have F8 := Lib.hid f8
            have S8 := Lib.hid (cell_keep HB8.out (cell_lt1 a6) a6)
            clear f8 ho8 hu8
            refine hK.out _ _ (by exact S8.out) (fun hHeld => ?_)
            clear hK K
            try simp only [Act.put, List.setIfInBounds_toArray, List.set_cons_zero, List.set_cons_succ]
            refine wpTill_ready (rs := [9]) (by kernel_rfl) (by simp) ?_
            refine AllTill.consD (o := ⟨some 50, _, _, _, _, _⟩) rfl (by kernel_rfl) (fun K hK => ?_) AllTill.nil
            rw [if_pos (show Region.wanted _ _ = true from rfl)]
            go_simp
            go_at_call 20
            obtain ⟨lab, a, b, hs, hgo⟩ := (HP6.out.later HB8.out).open
            have HG := Lib.hid hgo
            clear hgo
            refine (twrite_any p _ lab a b (4 * c) v8 _ _ hs (by omega) (by exact F8.out.vw) (Nat.le_refl _) HDB.out (by rw [HDLN.out.2.2]; omega) (fun x hx => ?_)).mono ?_
            · rw [rT_find hc8] at hx
              cases hx
              exact ⟨Nat.zero_le _, Nat.zero_le _⟩
            rw [HDLN.out.2.2, rT_wrR hc8 _ _ (by omega), HD.out, rT_wr hc8 _ (by have := HDLN.out.2.1; omega)]
            rintro e w9 ⟨rfl, hr⟩
            have HP9 := Lib.hid (HG.out _ _ hr)
            clear hs hr HG
            go_simp
            refine hK.out _ _ ?_
            clear hK K
            try simp only [Act.put, List.setIfInBounds_toArray, List.set_cons_zero, List.set_cons_succ]
            refine wpTill_take0 (i := 10) (oi := ⟨some 40, _, _, _, _, _⟩) (v := ?_) rfl (by kernel_rfl) (fun _ _ _ h => h) (Or.inl ⟨by rfl, ?_⟩) (fun h => Bool.noConfusion (h.symm.trans (show _ = true by kernel_rfl))) ?_
            rotate_left
            · intro w hSw
              (try dsimp only at hSw)
              go_simp
              try with_reducible rfl
            try simp only [Act.put, List.setIfInBounds_toArray, List.set_cons_zero, List.set_cons_succ]
            refine wpTill_take0 (i := 11) (oi := ⟨some 51, _, _, _, _, _⟩) (v := ?_) rfl (by kernel_rfl) (fun _ _ _ h => h) (Or.inl ⟨by rfl, ?_⟩) (fun h => Bool.noConfusion (h.symm.trans (show _ = true by kernel_rfl))) ?_
            rotate_left
            · intro w hSw
              (try dsimp only at hSw)
              go_simp
              try with_reducible rfl
            try simp only [Act.put, List.setIfInBounds_toArray, List.set_cons_zero, List.set_cons_succ]
            refine wpTill_take0 (i := 12) (oi := ⟨some 52, _, _, _, _, _⟩) (v := ?_) rfl (by kernel_rfl) (fun _ _ _ h => h) (Or.inl ⟨by rfl, ?_⟩) (fun h => Bool.noConfusion (h.symm.trans (show _ = true by kernel_rfl))) ?_
            rotate_left
            · intro w hSw
              (try dsimp only at hSw)
              go_simp
              try with_reducible rfl
            try simp only [Act.put, List.setIfInBounds_toArray, List.set_cons_zero, List.set_cons_succ]
            refine wpTill_take0 (i := 13) (oi := ⟨some 11, _, _, _, _, _⟩) (v := ?_) rfl (by kernel_rfl) (fun _ _ _ h => h) (Or.inl ⟨by rfl, ?_⟩) (fun h => Bool.noConfusion (h.symm.trans (show _ = true by kernel_rfl))) ?_
            rotate_left
            · intro w hSw
              (try dsimp only at hSw)
              go_simp
              try with_reducible rfl
            try simp only [Act.put, List.setIfInBounds_toArray, List.set_cons_zero, List.set_cons_succ]
            refine wpTill_take0 (i := 14) (oi := ⟨some 12, _, _, _, _, _⟩) (v := ?_) rfl (by kernel_rfl) (fun _ _ _ h => h) (Or.inl ⟨by rfl, ?_⟩) (fun h => Bool.noConfusion (h.symm.trans (show _ = true by kernel_rfl))) ?_
            rotate_left
            · intro w hSw
              (try dsimp only at hSw)
              go_simp
              try with_reducible rfl
            try simp only [Act.put, List.setIfInBounds_toArray, List.set_cons_zero, List.set_cons_succ]
            refine wpTill_done (by kernel_rfl) ?_ _
            go_wp2_with fail
            go_meet
            case rel => exact ⟨rfl, HP9.out⟩
          exact AllTill.nil

        case rest =>
          obtain ⟨rfl, hpb⟩ := hcut
          have HP7 := Lib.hid hpb
          clear hpb
          go_wp2_with fail
          go_roundw
          case rel => exact ⟨c + 1, by go_num, by omega, HP7.out⟩
          case measure => simp [intOf]; omega
    · obtain rfl : c = k := by omega
      clear hlt
      as_aux_lemma =>
        go_upto_region 14 with fail
        go_cut [13] (fun v wx => ∃ zl, v = .pointer (some ⟨zl, 0, none⟩) ∧ LB w wx za p zl (rT c 0 D) (lastA c 0))
        case first =>
          go_wp2_with fail
          go_meet
          case rel => exact ⟨_, rfl, by rw [lastA_zero]; exact LB.mk HP.out ha0⟩
        case rest =>
          obtain ⟨zl, rfl, hlb⟩ := hcut
          generalize wc = w4 at *
          have HL4 := Lib.hid hlb
          clear hlb HP a1
          have h5c : IntKind.i64.wrap (5 * (c : Int)) = (5 * c : Nat) := by rw [IntWalk.i64_in _ (by omega)]; omega
          go_wp2_with fail
          go_loopw [14] (fun i wr => ∃ j : Nat, i = .int .i64 (j + 1 : Nat) ∧ j ≤ 5 * c ∧ LB w wr za p zl (rT c j D) (lastA c j)) (fun i _ => 41 - (intOf i).toNat)
          case atStart => exact ⟨0, rfl, by omega, HL4.out⟩
          case round =>
            obtain ⟨j, rfl, hj, hlb⟩ := hrel
            have HL := Lib.hid hlb
            have a2 := hlb.a0
            clear hlb HL4
            by_cases hlt : j < 5 * c
            · as_aux_lemma =>
                have hji : ((j + 1 : Nat) : Int) ≤ (5 * c : Nat) := by omega
                have hm := Nat.mod_lt j hk1
                obtain ⟨m, hme⟩ : ∃ m, j % c = m := ⟨_, rfl⟩
                rw [hme] at hm
                have HM := Lib.hid hme
                clear hme
                go_upto_region 18 with fail
                go_cut [15, 16] (fun v v2 wx => ∃ (z of : Nat) (oa : Option Addr) (nv cv : Nat), v = .pointer (some ⟨z, 0, none⟩) ∧ v2 = .bool true ∧ LB w wx za p zl (rT c (j + 1) D) (lastA c j) ∧ wx.heap[z]? = some (.cells (encF (strF (4 * m) of (.slice oa nv cv) false)).toArray 39 (0, 0)))
                case first =>
                  go_wp2_with fail
                  obtain ⟨lab, a, b, hs, hgo⟩ := HL.out.open
                  have HG := Lib.hid hgo
                  refine (ring_next p c j D lab a b _ hs hk1 hk8 hlt HDLN.out.1 HDLN.out.2.1 (fun s hs => rS_gj (tau_le hk1 (by omega)) HDLN.out.1 HDLN.out.2.1 (by rw [← HD.out]; exact HDB.out))).mono ?_
                  rintro e w6 ⟨oa, nv, cv, rfl, hr⟩
                  have HL6 := Lib.hid (show LB w w6 za p zl (rT c (j + 1) D) (lastA c j) from HG.out _ _ hr)
                  clear hs hgo hr HG HL lab a b a2
                  rw [HM.out]
                  obtain ⟨of, hof⟩ : ∃ of, 40 * tau c j m = of := ⟨_, rfl⟩
                  rw [hof]
                  clear hof
                  go_wp2_with (refine wpList_store_row rfl 39 (.tmp 15) (.tmp 67) rfl _ _ rfl rfl 39 (encF zeroF).toArray (by exact alloc_at w6 _) (by rw [sizeF]; rfl) rfl (by simp [Value.oneCell', encF, strF]) ?_)
                  go_meet
                  case rel => exact ⟨_, of, oa, nv, cv, rfl, rfl, HL6.out.later (setRow_belowC ((Below.refl _ _).alloc (Nat.le_refl _) _) (Nat.le_refl _)), setRow_heap _ _ _ _ _ _ (by exact alloc_at w6 _)⟩
                case rest =>
                  obtain ⟨z, of, oa, nv, cv, rfl, rfl, hlb, hz⟩ := hcut
                  generalize wc = w7 at *
                  have HL7 := Lib.hid hlb
                  have z0 : w7.cell? ⟨z, 0, none⟩ = some (.int .i64 8) := (cell_at hz 0).trans rfl
                  have z1 : w7.cell? ⟨z, 1, none⟩ = some (.int .u64 (4 * m : Nat)) := (cell_at hz 1).trans rfl
                  have hrow := HL7.out.row
                  have l0 : w7.cell? ⟨zl, 4 * m, none⟩ = some (.int .i64 (lastC c j (4 * m) : Nat)) := (cell_at hrow (4 * m)).trans (lastA_at (by omega))
                  have hge : ¬ (40 : Int) ≤ ((4 * m : Nat) : Int) := by omega
                  have hlast : c ≤ j → lastC c j (4 * m) = j + 1 - c := fun hcj => by rw [← HM.out]; exact lastC_now hk1 hcj
                  have HLC := Lib.hid hlast
                  obtain ⟨lc, hlc⟩ : ∃ lc, lastC c j (4 * m) = lc := ⟨_, rfl⟩
                  rw [hlc] at l0
                  have HLE := Lib.hid hlc
                  have HROW := Lib.hid hrow
                  clear hlb hz HL a2 hlast hlc hrow
                  have hjj : (j : Int) + 1 = (j + 1 : Nat) := by omega
                  have hset := HL7.out.set (fun q => by
                    have e := (cell_at HL7.out.row 0).trans (lastA_at (by omega))
                    rw [← q, HL7.out.a0] at e
                    cases e) (4 * m) (.int .i64 (j + 1 : Nat))
                  rw [← HM.out, lastA_set hk1 hk8, HM.out] at hset
                  have HS := Lib.hid hset
                  clear hset
                  have hfr : w7.frozen? ⟨zl, 4 * m, none⟩ = false := free_at HROW.out _
                  obtain ⟨sid, hsid⟩ : ∃ sid, 4 * m = sid := ⟨_, rfl⟩
                  have hs40 : sid < 40 := by omega
                  rw [hsid] at z1 l0 HS HLE HLC hge hfr
                  clear hsid
                  obtain ⟨j1, hj1⟩ : ∃ j1, j + 1 = j1 := ⟨_, rfl⟩
                  have hj1b : 1 ≤ j1 ∧ j1 ≤ 40 := by omega
                  rw [hj1] at HS HLC ⊢
                  have HJ := Lib.hid hj1
                  clear hjj hji
                  by_cases hcj : c < j1
                  · have e := HLC.out (by omega)
                    rw [HLE.out] at e
                    have hsub : IntKind.i64.wrap ((j1 : Int) - (c : Int)) = (lc : Nat) := by rw [IntWalk.i64_in _ (by omega)]; omega
                    have hgt : (c : Int) < (j1 : Int) := by omega
                    have hdn : j1 - 0 = j1 := rfl
                    clear HLC e hj1 hcj hdn
                    go_wp2_with fail
                    go_roundw
                    case rel => exact ⟨j1, by go_num, by have := HJ.out; omega, HS.out⟩
                    case measure => have hj := HJ.out; simp [intOf]; omega
                  · have hgt : ¬ (c : Int) < (j1 : Int) := by omega
                    clear HLC hj1 hcj
                    go_wp2_with fail
                    go_roundw
                    case rel => exact ⟨j1, by go_num, by have := HJ.out; omega, HS.out⟩
                    case measure => have hj := HJ.out; simp [intOf]; omega
            · obtain rfl : j = 5 * c := by omega
              have hji : ¬ ((5 * c + 1 : Nat) : Int) ≤ (5 * c : Nat) := by omega
              clear hlt
              go_wp2_with fail
              refine (stknown_any _).mono ?_
              rintro e w8 ⟨rfl, hb8⟩
              have HB := Lib.hid (HL.out.later hb8).bd
              clear hb8 HL
              go_wp2_with fail
              go_ret
              exact ⟨rfl, HB.out⟩
end Go.Proofs.Ytfdgamlakfkekaa
