/- DERIVED. Walk of narthexlaw14's InbufNumbers. -/
import Derived.Test.YtojklmbbepgciaaInbPlays
import Derived.Laws.MakeOwn
import Derived.Laws.OwnMore
namespace Go.Proofs.Ytojklmbbepgciaa
open Go.RowKit

theorem make_bytes (n : Nat) (h : n ≤ 1000) : ∃ Z : Array Value, (∀ w : World, (Instr.makeSlice 22 (.int .i64 (n : Int)) (.int .i64 (n : Int))).run Try.prog w = .ok (.slice (some ⟨w.heap.size, 0, none⟩) n n) (w.alloc (.cells Z 5))) ∧ Z.toList = flat encB (List.replicate n 0) := by
  obtain ⟨i0, hi0, hz0, hz1, hz2'⟩ := info_parts infoB
  refine ⟨madeCells (Value.int .u8 0).cells n, fun w => ?_, ?_⟩
  · have := run_make (P := Try.prog) w 22 5 i0 _ Try.underlying22 hi0 hz0 .i64 .i64 n n (by omega) (by omega) (by rw [hz2']; omega) (by omega)
    rw [this, hz1]
    simp
  · show (madeCells #[Value.int .u8 0] n).toList = _
    rw [toList_madeCells_one, flatB, List.map_replicate]
    rfl
theorem rdy_row (n : Nat) (h : n = 512) : rdy (IB.zero.add 0 (List.replicate n 0) false).L = n := by
  have e : IB.zero.add 0 (List.replicate n 0) false = IB.zero.put 0 (List.replicate n 0) false := by
    unfold IB.add
    rw [List.length_replicate, h, if_pos (by decide)]
  rw [e]
  have hg : ∀ j, gt (IB.zero.put 0 (List.replicate n 0) false).L j = (List.replicate n 0)[j]? := by
    intro j
    simp only [IB.put, IB.zero]
    rw [gt_putN, gt_nil]
    simp
  apply rdy_is
  · intro j hj
    rw [hg, List.getElem?_eq_getElem (by simp; omega)]
    rfl
  · rw [hg, List.getElem?_eq_none (by simp)]
def encV (v : Value) : List Value := [v]
def la (g : Nat) : List AkI := [⟨0, 0, 0, 0, false, true, 1099511627777, .slice none 0 0⟩, ⟨0, 0, 0, 0, false, true, 2008, .slice (some ⟨g, 0, none⟩) 40 512⟩, ⟨0, 0, 0, 0, false, true, 2009, .slice (some ⟨g, 0, none⟩) 40 512⟩, ⟨1, 0, 0, 9, false, false, 0, .slice none 0 0⟩]
def lb (g : Nat) : List AkI := [⟨0, 0, 0, 0, true, false, 0, .slice (some ⟨g, 0, none⟩) 5 512⟩, ⟨0, 5, 0, 0, false, false, 0, .slice none 0 0⟩, ⟨0, 5, 0, 0, true, false, 0, .slice none 0 0⟩, ⟨0, 6, 0, 0, true, false, 0, .slice none 0 0⟩, ⟨0, 4, 0, 0, true, false, 0, .slice none 0 0⟩, ⟨1, 0, 0, (-1), false, false, 0, .slice none 0 0⟩, ⟨1, 0, 0, 2, false, false, 0, .slice none 0 0⟩, ⟨1, 0, 0, 9, false, false, 0, .slice none 0 0⟩, ⟨1, 0, 0, 0, false, false, 0, .slice none 0 0⟩]
def lc (g : Nat) : List AkI := [⟨0, 9, 0, 0, false, false, 0, .slice (some ⟨g, 0, none⟩) 3 512⟩, ⟨0, 5, 0, 0, true, false, 0, .slice none 0 0⟩, ⟨0, 12, 0, 0, true, false, 0, .slice none 0 0⟩, ⟨0, 0, 0, 0, false, false, 0, .slice (some ⟨g, 0, none⟩) 9 512⟩, ⟨1, 0, 0, 5, false, false, 0, .slice none 0 0⟩, ⟨0, 0, 0, 0, true, false, 0, .slice (some ⟨g, 0, none⟩) 12 512⟩, ⟨1, 0, 0, 99, false, false, 0, .slice none 0 0⟩]
def ld (g : Nat) : List AkI := [⟨0, 0, 0, 0, true, false, 0, .slice none 0 0⟩, ⟨1, 0, 0, 0, false, false, 0, .slice none 0 0⟩, ⟨0, 0, 0, 0, false, false, 0, .slice (some ⟨g, 0, none⟩) 1 512⟩]
/-- Rows of Asks, each of which may be asked. -/
structure Nums (w : World) (g : Nat) (v : Value) : Prop where
  ex : ∃ vs : List Value, Vw encV w w.heap.size v vs ∧ vs.length = 4 ∧ ∀ u ∈ vs, ∃ L, Vw encI w w.heap.size u L ∧ L.length ≤ 9 ∧ ∀ a ∈ L, AkIOk w w.heap.size a
  lng : Vw encB w w.heap.size (.slice (some ⟨g, 0, none⟩) 512 512) (List.replicate 512 0)
theorem nums_ok {W w : World} {g g8 g20 g34 g40 g41 : Nat} {v8 v20 v34 v40 v41 : Value} (hb : Below W.heap.size W w) (hg : Vw encB W W.heap.size (.slice (some ⟨g, 0, none⟩) 512 512) (List.replicate 512 0))
    (f8 : SlG encI 29 w v8 (some g8) (la g)) (f20 : SlG encI 29 w v20 (some g20) (lb g)) (f34 : SlG encI 29 w v34 (some g34) (lc g)) (f40 : SlG encI 29 w v40 (some g40) (ld g))
    (f41 : SlG encV 23 w v41 (some g41) [v8, v20, v34, v40]) : Below W.heap.size W w ∧ Nums w g v41 := by
  have hl := (hg.below hb).mono hb.size
  have hn : ∀ n, n ≤ 512 → ∃ d, Vw encB w w.heap.size (.slice (some ⟨g, 0, none⟩) n 512) d ∧ Bys d := fun n hn => ⟨_, hl.front encB_len n hn, fun x hx => by
    have := List.mem_of_mem_take hx
    rw [List.mem_replicate] at this
    omega⟩
  have h0 : ∃ d, Vw encB w w.heap.size (.slice none 0 0) d ∧ Bys d := ⟨[], Vw.nil _ _ _ _ (by omega), by unfold Bys; simp⟩
  refine ⟨hb, ⟨_, f41.vw, rfl, ?_⟩, hl⟩
  intro u hu
  simp only [List.mem_cons, List.not_mem_nil, or_false] at hu
  rcases hu with rfl | rfl | rfl | rfl
  · refine ⟨_, f8.vw, by simp [la], ?_⟩
    intro a ha
    simp only [la, List.mem_cons, List.not_mem_nil, or_false] at ha
    rcases ha with rfl | rfl | rfl | rfl
    all_goals exact ⟨by unfold I64; simp, by unfold I64; simp, by unfold I64; simp, by unfold I64; simp, by simp, by first | exact h0 | exact hn _ (by decide)⟩
  · refine ⟨_, f20.vw, by simp [lb], ?_⟩
    intro a ha
    simp only [lb, List.mem_cons, List.not_mem_nil, or_false] at ha
    rcases ha with rfl | rfl | rfl | rfl | rfl | rfl | rfl | rfl | rfl
    all_goals exact ⟨by unfold I64; simp, by unfold I64; simp, by unfold I64; simp, by unfold I64; simp, by simp, by first | exact h0 | exact hn _ (by decide)⟩
  · refine ⟨_, f34.vw, by simp [lc], ?_⟩
    intro a ha
    simp only [lc, List.mem_cons, List.not_mem_nil, or_false] at ha
    rcases ha with rfl | rfl | rfl | rfl | rfl | rfl | rfl
    all_goals exact ⟨by unfold I64; simp, by unfold I64; simp, by unfold I64; simp, by unfold I64; simp, by simp, by first | exact h0 | exact hn _ (by decide)⟩
  · refine ⟨_, f40.vw, by simp [ld], ?_⟩
    intro a ha
    simp only [ld, List.mem_cons, List.not_mem_nil, or_false] at ha
    rcases ha with rfl | rfl | rfl
    all_goals exact ⟨by unfold I64; simp, by unfold I64; simp, by unfold I64; simp, by unfold I64; simp, by simp, by first | exact h0 | exact hn _ (by decide)⟩
set_option maxRecDepth 100000 in
set_option maxHeartbeats 4000000 in
theorem numbers_walk (w : World) :
    Calls Try.prog 4 #[] w fun e w' => e = .returned (.bool true) ∧ Below w.heap.size w w' := by
  obtain ⟨Z, hZ, hZl⟩ := make_bytes 512 (by decide)
  obtain ⟨Y, hY, hYl⟩ := make_bytes 513 (by decide)
  have hZ' : ∀ w : World, (Instr.makeSlice 22 (.int .i64 512) (.int .i64 512)).run Try.prog w = .ok (.slice (some ⟨w.heap.size, 0, none⟩) 512 512) (w.alloc (.cells Z 5)) := hZ
  have HY := Lib.hid hY
  have HZL := Lib.hid hZl
  have HYL := Lib.hid hYl
  clear hZ hY hZl hYl
  go_enter Try.func4, Try.ntmps4
  go_upto_region 1 with fail
  go_cut [1] (fun v wx => ∃ g, v = .slice (some ⟨g, 0, none⟩) 512 512 ∧ Below w.heap.size w wx ∧ Vw encB wx wx.heap.size (.slice (some ⟨g, 0, none⟩) 512 512) (List.replicate 512 0))
  case first =>
    go_wp2_with fail
    go_meet
    case rel =>
      refine ⟨_, rfl, (Below.refl _ _).alloc (Nat.le_refl _) _, ?_⟩
      refine ⟨_, 512, rfl, by simp, by simp, .inr ⟨_, 0, rfl, by simp, fun j u hj => ?_⟩⟩
      rw [Nat.zero_add, cell_at (alloc_at _ _)]
      rw [← HZL.out] at hj
      simpa using hj
  case rest =>
    obtain ⟨g, rfl, hb0, hg⟩ := hcut
    generalize wc = w0 at *
    have HB0 := Lib.hid hb0
    have HG := Lib.hid (show Vw encB w0.drew w0.drew.heap.size (.slice (some ⟨g, 0, none⟩) 512 512) (List.replicate 512 0) from hg)
    clear hb0 hg hZ'
    go_upto_region 2 with fail
    go_cut [50, 51, 52] (fun v a z wx => a = .int .i64 4 ∧ z = .int .i64 0 ∧ Below w0.drew.heap.size w0.drew wx ∧ Nums wx g v)
    case first =>
      go_wp2_with fail
      have hb : Below w0.drew.heap.size w0.drew w0.drew := Below.refl _ _
      refine wp_region_till (S := fun _ => True) [] (by kernel_rfl) (trivial) (fun hHeld => ?_)
      refine wpTill_take0 (i := 0) (oi := ⟨some 9, _, _, _, _, _⟩) (v := ?_) rfl (by kernel_rfl) (fun _ _ _ h => h) (Or.inl ⟨by rfl, ?_⟩) (fun _ => hHeld) ?_
      rotate_left
      · intro w hSw
        (try dsimp only at hSw)
        go_simp
        try with_reducible rfl
      try simp only [Act.put, List.setIfInBounds_toArray, List.set_cons_zero, List.set_cons_succ]
      refine wpTill_take0 (i := 1) (oi := ⟨some 10, _, _, _, _, _⟩) (v := ?_) rfl (by kernel_rfl) (fun _ _ _ h => h) (Or.inl ⟨by rfl, ?_⟩) (fun _ => hHeld) ?_
      rotate_left
      · intro w hSw
        (try dsimp only at hSw)
        go_simp
        try with_reducible rfl
      try simp only [Act.put, List.setIfInBounds_toArray, List.set_cons_zero, List.set_cons_succ]
      refine wpTill_take0 (i := 2) (oi := ⟨some 11, _, _, _, _, _⟩) (v := ?_) rfl (by kernel_rfl) (fun _ _ _ h => h) (Or.inl ⟨by rfl, ?_⟩) (fun _ => hHeld) ?_
      rotate_left
      · intro w hSw
        (try dsimp only at hSw)
        go_simp
        try with_reducible rfl
      try simp only [Act.put, List.setIfInBounds_toArray, List.set_cons_zero, List.set_cons_succ]
      refine wpTill_take0 (i := 3) (oi := ⟨some 12, _, _, _, _, _⟩) (v := ?_) rfl (by kernel_rfl) (fun _ _ _ h => h) (Or.inl ⟨by rfl, ?_⟩) (fun _ => hHeld) ?_
      rotate_left
      · intro w hSw
        (try dsimp only at hSw)
        go_simp
        try with_reducible rfl
      try simp only [Act.put, List.setIfInBounds_toArray, List.set_cons_zero, List.set_cons_succ]
      refine wpTill_take0 (i := 4) (oi := ⟨some 13, _, _, _, _, _⟩) (v := ?_) rfl (by kernel_rfl) (fun _ _ _ h => h) (Or.inl ⟨by rfl, ?_⟩) (fun _ => hHeld) ?_
      rotate_left
      · intro w hSw
        (try dsimp only at hSw)
        go_simp
        try with_reducible rfl
      try simp only [Act.put, List.setIfInBounds_toArray, List.set_cons_zero, List.set_cons_succ]
      refine wpTill_take0 (i := 5) (oi := ⟨some 14, _, _, _, _, _⟩) (v := ?_) rfl (by kernel_rfl) (fun _ _ _ h => h) (Or.inl ⟨by rfl, ?_⟩) (fun _ => hHeld) ?_
      rotate_left
      · intro w hSw
        (try dsimp only at hSw)
        go_simp
        try with_reducible rfl
      try simp only [Act.put, List.setIfInBounds_toArray, List.set_cons_zero, List.set_cons_succ]
      refine wpTill_take0 (i := 6) (oi := ⟨some 15, _, _, _, _, _⟩) (v := ?_) rfl (by kernel_rfl) (fun _ _ _ h => h) (Or.inl ⟨by rfl, ?_⟩) (fun _ => hHeld) ?_
      rotate_left
      · intro w hSw
        (try dsimp only at hSw)
        go_simp
        try with_reducible rfl
      try simp only [Act.put, List.setIfInBounds_toArray, List.set_cons_zero, List.set_cons_succ]
      refine wpTill_take0 (i := 7) (oi := ⟨some 16, _, _, _, _, _⟩) (v := ?_) rfl (by kernel_rfl) (fun _ _ _ h => h) (Or.inl ⟨by rfl, ?_⟩) (fun _ => hHeld) ?_
      rotate_left
      · intro w hSw
        (try dsimp only at hSw)
        go_simp
        try with_reducible rfl
      try simp only [Act.put, List.setIfInBounds_toArray, List.set_cons_zero, List.set_cons_succ]
      refine wpTill_take0 (i := 9) (oi := ⟨some 18, _, _, _, _, _⟩) (v := ?_) rfl (by kernel_rfl) (fun _ _ _ h => h) (Or.inl ⟨by rfl, ?_⟩) (fun _ => hHeld) ?_
      rotate_left
      · intro w hSw
        (try dsimp only at hSw)
        go_simp
        try with_reducible rfl
      try simp only [Act.put, List.setIfInBounds_toArray, List.set_cons_zero, List.set_cons_succ]
      refine wpTill_take0 (i := 10) (oi := ⟨some 19, _, _, _, _, _⟩) (v := ?_) rfl (by kernel_rfl) (fun _ _ _ h => h) (Or.inl ⟨by rfl, ?_⟩) (fun _ => hHeld) ?_
      rotate_left
      · intro w hSw
        (try dsimp only at hSw)
        go_simp
        try with_reducible rfl
      try simp only [Act.put, List.setIfInBounds_toArray, List.set_cons_zero, List.set_cons_succ]
      refine wpTill_take0 (i := 11) (oi := ⟨some 20, _, _, _, _, _⟩) (v := ?_) rfl (by kernel_rfl) (fun _ _ _ h => h) (Or.inl ⟨by rfl, ?_⟩) (fun _ => hHeld) ?_
      rotate_left
      · intro w hSw
        (try dsimp only at hSw)
        go_simp
        try with_reducible rfl
      try simp only [Act.put, List.setIfInBounds_toArray, List.set_cons_zero, List.set_cons_succ]
      refine wpTill_take0 (i := 12) (oi := ⟨some 21, _, _, _, _, _⟩) (v := ?_) rfl (by kernel_rfl) (fun _ _ _ h => h) (Or.inl ⟨by rfl, ?_⟩) (fun _ => hHeld) ?_
      rotate_left
      · intro w hSw
        (try dsimp only at hSw)
        go_simp
        try with_reducible rfl
      try simp only [Act.put, List.setIfInBounds_toArray, List.set_cons_zero, List.set_cons_succ]
      refine wpTill_take0 (i := 13) (oi := ⟨some 22, _, _, _, _, _⟩) (v := ?_) rfl (by kernel_rfl) (fun _ _ _ h => h) (Or.inl ⟨by rfl, ?_⟩) (fun _ => hHeld) ?_
      rotate_left
      · intro w hSw
        (try dsimp only at hSw)
        go_simp
        try with_reducible rfl
      try simp only [Act.put, List.setIfInBounds_toArray, List.set_cons_zero, List.set_cons_succ]
      refine wpTill_take0 (i := 14) (oi := ⟨some 23, _, _, _, _, _⟩) (v := ?_) rfl (by kernel_rfl) (fun _ _ _ h => h) (Or.inl ⟨by rfl, ?_⟩) (fun _ => hHeld) ?_
      rotate_left
      · intro w hSw
        (try dsimp only at hSw)
        go_simp
        try with_reducible rfl
      try simp only [Act.put, List.setIfInBounds_toArray, List.set_cons_zero, List.set_cons_succ]
      refine wpTill_take0 (i := 15) (oi := ⟨some 24, _, _, _, _, _⟩) (v := ?_) rfl (by kernel_rfl) (fun _ _ _ h => h) (Or.inl ⟨by rfl, ?_⟩) (fun _ => hHeld) ?_
      rotate_left
      · intro w hSw
        (try dsimp only at hSw)
        go_simp
        try with_reducible rfl
      try simp only [Act.put, List.setIfInBounds_toArray, List.set_cons_zero, List.set_cons_succ]
      refine wpTill_take0 (i := 16) (oi := ⟨some 25, _, _, _, _, _⟩) (v := ?_) rfl (by kernel_rfl) (fun _ _ _ h => h) (Or.inl ⟨by rfl, ?_⟩) (fun _ => hHeld) ?_
      rotate_left
      · intro w hSw
        (try dsimp only at hSw)
        go_simp
        try with_reducible rfl
      try simp only [Act.put, List.setIfInBounds_toArray, List.set_cons_zero, List.set_cons_succ]
      refine wpTill_take0 (i := 17) (oi := ⟨some 26, _, _, _, _, _⟩) (v := ?_) rfl (by kernel_rfl) (fun _ _ _ h => h) (Or.inl ⟨by rfl, ?_⟩) (fun _ => hHeld) ?_
      rotate_left
      · intro w hSw
        (try dsimp only at hSw)
        go_simp
        try with_reducible rfl
      try simp only [Act.put, List.setIfInBounds_toArray, List.set_cons_zero, List.set_cons_succ]
      refine wpTill_take0 (i := 18) (oi := ⟨some 27, _, _, _, _, _⟩) (v := ?_) rfl (by kernel_rfl) (fun _ _ _ h => h) (Or.inl ⟨by rfl, ?_⟩) (fun _ => hHeld) ?_
      rotate_left
      · intro w hSw
        (try dsimp only at hSw)
        go_simp
        try with_reducible rfl
      try simp only [Act.put, List.setIfInBounds_toArray, List.set_cons_zero, List.set_cons_succ]
      refine wpTill_take0 (i := 19) (oi := ⟨some 28, _, _, _, _, _⟩) (v := ?_) rfl (by kernel_rfl) (fun _ _ _ h => h) (Or.inl ⟨by rfl, ?_⟩) (fun _ => hHeld) ?_
      rotate_left
      · intro w hSw
        (try dsimp only at hSw)
        go_simp
        try with_reducible rfl
      try simp only [Act.put, List.setIfInBounds_toArray, List.set_cons_zero, List.set_cons_succ]
      refine wpTill_take0 (i := 21) (oi := ⟨some 30, _, _, _, _, _⟩) (v := ?_) rfl (by kernel_rfl) (fun _ _ _ h => h) (Or.inl ⟨by rfl, ?_⟩) (fun _ => hHeld) ?_
      rotate_left
      · intro w hSw
        (try dsimp only at hSw)
        go_simp
        try with_reducible rfl
      try simp only [Act.put, List.setIfInBounds_toArray, List.set_cons_zero, List.set_cons_succ]
      refine wpTill_take0 (i := 22) (oi := ⟨some 31, _, _, _, _, _⟩) (v := ?_) rfl (by kernel_rfl) (fun _ _ _ h => h) (Or.inl ⟨by rfl, ?_⟩) (fun _ => hHeld) ?_
      rotate_left
      · intro w hSw
        (try dsimp only at hSw)
        go_simp
        try with_reducible rfl
      try simp only [Act.put, List.setIfInBounds_toArray, List.set_cons_zero, List.set_cons_succ]
      refine wpTill_take0 (i := 23) (oi := ⟨some 32, _, _, _, _, _⟩) (v := ?_) rfl (by kernel_rfl) (fun _ _ _ h => h) (Or.inl ⟨by rfl, ?_⟩) (fun _ => hHeld) ?_
      rotate_left
      · intro w hSw
        (try dsimp only at hSw)
        go_simp
        try with_reducible rfl
      try simp only [Act.put, List.setIfInBounds_toArray, List.set_cons_zero, List.set_cons_succ]
      refine wpTill_take0 (i := 24) (oi := ⟨some 33, _, _, _, _, _⟩) (v := ?_) rfl (by kernel_rfl) (fun _ _ _ h => h) (Or.inl ⟨by rfl, ?_⟩) (fun _ => hHeld) ?_
      rotate_left
      · intro w hSw
        (try dsimp only at hSw)
        go_simp
        try with_reducible rfl
      try simp only [Act.put, List.setIfInBounds_toArray, List.set_cons_zero, List.set_cons_succ]
      refine wpTill_take0 (i := 25) (oi := ⟨some 34, _, _, _, _, _⟩) (v := ?_) rfl (by kernel_rfl) (fun _ _ _ h => h) (Or.inl ⟨by rfl, ?_⟩) (fun _ => hHeld) ?_
      rotate_left
      · intro w hSw
        (try dsimp only at hSw)
        go_simp
        try with_reducible rfl
      try simp only [Act.put, List.setIfInBounds_toArray, List.set_cons_zero, List.set_cons_succ]
      refine wpTill_take0 (i := 26) (oi := ⟨some 35, _, _, _, _, _⟩) (v := ?_) rfl (by kernel_rfl) (fun _ _ _ h => h) (Or.inl ⟨by rfl, ?_⟩) (fun _ => hHeld) ?_
      rotate_left
      · intro w hSw
        (try dsimp only at hSw)
        go_simp
        try with_reducible rfl
      try simp only [Act.put, List.setIfInBounds_toArray, List.set_cons_zero, List.set_cons_succ]
      refine wpTill_take0 (i := 27) (oi := ⟨some 36, _, _, _, _, _⟩) (v := ?_) rfl (by kernel_rfl) (fun _ _ _ h => h) (Or.inl ⟨by rfl, ?_⟩) (fun _ => hHeld) ?_
      rotate_left
      · intro w hSw
        (try dsimp only at hSw)
        go_simp
        try with_reducible rfl
      try simp only [Act.put, List.setIfInBounds_toArray, List.set_cons_zero, List.set_cons_succ]
      refine wpTill_take0 (i := 28) (oi := ⟨some 37, _, _, _, _, _⟩) (v := ?_) rfl (by kernel_rfl) (fun _ _ _ h => h) (Or.inl ⟨by rfl, ?_⟩) (fun _ => hHeld) ?_
      rotate_left
      · intro w hSw
        (try dsimp only at hSw)
        go_simp
        try with_reducible rfl
      try simp only [Act.put, List.setIfInBounds_toArray, List.set_cons_zero, List.set_cons_succ]
      refine wpTill_take0 (i := 29) (oi := ⟨some 38, _, _, _, _, _⟩) (v := ?_) rfl (by kernel_rfl) (fun _ _ _ h => h) (Or.inl ⟨by rfl, ?_⟩) (fun _ => hHeld) ?_
      rotate_left
      · intro w hSw
        (try dsimp only at hSw)
        go_simp
        try with_reducible rfl
      try simp only [Act.put, List.setIfInBounds_toArray, List.set_cons_zero, List.set_cons_succ]
      refine wpTill_take0 (i := 30) (oi := ⟨some 39, _, _, _, _, _⟩) (v := ?_) rfl (by kernel_rfl) (fun _ _ _ h => h) (Or.inl ⟨by rfl, ?_⟩) (fun _ => hHeld) ?_
      rotate_left
      · intro w hSw
        (try dsimp only at hSw)
        go_simp
        try with_reducible rfl
      try simp only [Act.put, List.setIfInBounds_toArray, List.set_cons_zero, List.set_cons_succ]
      refine wpTill_take0 (i := 31) (oi := ⟨some 40, _, _, _, _, _⟩) (v := ?_) rfl (by kernel_rfl) (fun _ _ _ h => h) (Or.inl ⟨by rfl, ?_⟩) (fun _ => hHeld) ?_
      rotate_left
      · intro w hSw
        (try dsimp only at hSw)
        go_simp
        try with_reducible rfl
      try simp only [Act.put, List.setIfInBounds_toArray, List.set_cons_zero, List.set_cons_succ]
      refine wpTill_take0 (i := 32) (oi := ⟨some 41, _, _, _, _, _⟩) (v := ?_) rfl (by kernel_rfl) (fun _ _ _ h => h) (Or.inl ⟨by rfl, ?_⟩) (fun _ => hHeld) ?_
      rotate_left
      · intro w hSw
        (try dsimp only at hSw)
        go_simp
        try with_reducible rfl
      try simp only [Act.put, List.setIfInBounds_toArray, List.set_cons_zero, List.set_cons_succ]
      refine wpTill_take0 (i := 33) (oi := ⟨some 42, _, _, _, _, _⟩) (v := ?_) rfl (by kernel_rfl) (fun _ _ _ h => h) (Or.inl ⟨by rfl, ?_⟩) (fun _ => hHeld) ?_
      rotate_left
      · intro w hSw
        (try dsimp only at hSw)
        go_simp
        try with_reducible rfl
      try simp only [Act.put, List.setIfInBounds_toArray, List.set_cons_zero, List.set_cons_succ]
      refine wpTill_take0 (i := 35) (oi := ⟨some 44, _, _, _, _, _⟩) (v := ?_) rfl (by kernel_rfl) (fun _ _ _ h => h) (Or.inl ⟨by rfl, ?_⟩) (fun _ => hHeld) ?_
      rotate_left
      · intro w hSw
        (try dsimp only at hSw)
        go_simp
        try with_reducible rfl
      try simp only [Act.put, List.setIfInBounds_toArray, List.set_cons_zero, List.set_cons_succ]
      refine wpTill_take0 (i := 36) (oi := ⟨some 45, _, _, _, _, _⟩) (v := ?_) rfl (by kernel_rfl) (fun _ _ _ h => h) (Or.inl ⟨by rfl, ?_⟩) (fun _ => hHeld) ?_
      rotate_left
      · intro w hSw
        (try dsimp only at hSw)
        go_simp
        try with_reducible rfl
      try simp only [Act.put, List.setIfInBounds_toArray, List.set_cons_zero, List.set_cons_succ]
      refine wpTill_take0 (i := 37) (oi := ⟨some 46, _, _, _, _, _⟩) (v := ?_) rfl (by kernel_rfl) (fun _ _ _ h => h) (Or.inl ⟨by rfl, ?_⟩) (fun _ => hHeld) ?_
      rotate_left
      · intro w hSw
        (try dsimp only at hSw)
        go_simp
        try with_reducible rfl
      try simp only [Act.put, List.setIfInBounds_toArray, List.set_cons_zero, List.set_cons_succ]
      refine wpTill_take0 (i := 38) (oi := ⟨some 47, _, _, _, _, _⟩) (v := ?_) rfl (by kernel_rfl) (fun _ _ _ h => h) (Or.inl ⟨by rfl, ?_⟩) (fun _ => hHeld) ?_
      rotate_left
      · intro w hSw
        (try dsimp only at hSw)
        go_simp
        try with_reducible rfl
      try simp only [Act.put, List.setIfInBounds_toArray, List.set_cons_zero, List.set_cons_succ]
      refine wpTill_take0 (i := 39) (oi := ⟨some 48, _, _, _, _, _⟩) (v := ?_) rfl (by kernel_rfl) (fun _ _ _ h => h) (Or.inl ⟨by rfl, ?_⟩) (fun _ => hHeld) ?_
      rotate_left
      · intro w hSw
        (try dsimp only at hSw)
        go_simp
        try with_reducible rfl
      try simp only [Act.put, List.setIfInBounds_toArray, List.set_cons_zero, List.set_cons_succ]
      refine wpTill_take0 (i := 43) (oi := ⟨some 52, _, _, _, _, _⟩) (v := ?_) rfl (by kernel_rfl) (fun _ _ _ h => h) (Or.inl ⟨by rfl, ?_⟩) (fun _ => hHeld) ?_
      rotate_left
      · intro w hSw
        (try dsimp only at hSw)
        go_simp
        try with_reducible rfl
      try simp only [Act.put, List.setIfInBounds_toArray, List.set_cons_zero, List.set_cons_succ]
      refine wpTill_ready (rs := [8, 20, 34, 40]) (by kernel_rfl) (by simp) ?_
      refine AllTill.cons (o := ⟨some 17, _, _, _, _, _⟩) rfl (fun K hK => ?_) ?_
      · refine step_fresh (enc := encI) (E := 29) rfl [⟨0, 0, 0, 0, false, true, 1099511627777, .slice none 0 0⟩, ⟨0, 0, 0, 0, false, true, 2008, .slice (some ⟨g, 0, none⟩) 40 512⟩, ⟨0, 0, 0, 0, false, true, 2009, .slice (some ⟨g, 0, none⟩) 40 512⟩, ⟨1, 0, 0, 9, false, false, 0, .slice none 0 0⟩] #[.int .i64 0, .int .i64 0, .int .i64 0, .int .i64 0, .bool false, .bool true, .int .u64 1099511627777, .slice none 0 0, .int .i64 0, .int .i64 0, .int .i64 0, .int .i64 0, .bool false, .bool true, .int .u64 2008, .slice (some ⟨g, 0, none⟩) 40 512, .int .i64 0, .int .i64 0, .int .i64 0, .int .i64 0, .bool false, .bool true, .int .u64 2009, .slice (some ⟨g, 0, none⟩) 40 512, .int .i64 1, .int .i64 0, .int .i64 0, .int .i64 9, .bool false, .bool false, .int .u64 0, .slice none 0 0] rfl (by simp) (by kernel_rfl) ?_
        intro W8 v8 g8 f8 hg8 hx8
        have hb := below_call hb hb.size hx8
        refine hK.out _ _ (trivial) (fun hHeld => ?_)
        clear hK K
        try simp only [Act.put, List.setIfInBounds_toArray, List.set_cons_zero, List.set_cons_succ]
        refine wpTill_ready (rs := [20, 34, 40]) (by kernel_rfl) (by simp) ?_
        refine AllTill.cons (o := ⟨some 29, _, _, _, _, _⟩) rfl (fun K hK => ?_) ?_
        · refine step_fresh (enc := encI) (E := 29) rfl [⟨0, 0, 0, 0, true, false, 0, .slice (some ⟨g, 0, none⟩) 5 512⟩, ⟨0, 5, 0, 0, false, false, 0, .slice none 0 0⟩, ⟨0, 5, 0, 0, true, false, 0, .slice none 0 0⟩, ⟨0, 6, 0, 0, true, false, 0, .slice none 0 0⟩, ⟨0, 4, 0, 0, true, false, 0, .slice none 0 0⟩, ⟨1, 0, 0, (-1), false, false, 0, .slice none 0 0⟩, ⟨1, 0, 0, 2, false, false, 0, .slice none 0 0⟩, ⟨1, 0, 0, 9, false, false, 0, .slice none 0 0⟩, ⟨1, 0, 0, 0, false, false, 0, .slice none 0 0⟩] #[.int .i64 0, .int .i64 0, .int .i64 0, .int .i64 0, .bool true, .bool false, .int .u64 0, .slice (some ⟨g, 0, none⟩) 5 512, .int .i64 0, .int .i64 5, .int .i64 0, .int .i64 0, .bool false, .bool false, .int .u64 0, .slice none 0 0, .int .i64 0, .int .i64 5, .int .i64 0, .int .i64 0, .bool true, .bool false, .int .u64 0, .slice none 0 0, .int .i64 0, .int .i64 6, .int .i64 0, .int .i64 0, .bool true, .bool false, .int .u64 0, .slice none 0 0, .int .i64 0, .int .i64 4, .int .i64 0, .int .i64 0, .bool true, .bool false, .int .u64 0, .slice none 0 0, .int .i64 1, .int .i64 0, .int .i64 0, .int .i64 (-1), .bool false, .bool false, .int .u64 0, .slice none 0 0, .int .i64 1, .int .i64 0, .int .i64 0, .int .i64 2, .bool false, .bool false, .int .u64 0, .slice none 0 0, .int .i64 1, .int .i64 0, .int .i64 0, .int .i64 9, .bool false, .bool false, .int .u64 0, .slice none 0 0, .int .i64 1, .int .i64 0, .int .i64 0, .int .i64 0, .bool false, .bool false, .int .u64 0, .slice none 0 0] rfl (by simp) (by kernel_rfl) ?_
          intro W20 v20 g20 f20 hg20 hx20
          have f8 := f8.below hx20
          have hb := below_call hb hb.size hx20
          refine hK.out _ _ (trivial) (fun hHeld => ?_)
          clear hK K
          try simp only [Act.put, List.setIfInBounds_toArray, List.set_cons_zero, List.set_cons_succ]
          refine wpTill_ready (rs := [34, 40]) (by kernel_rfl) (by simp) ?_
          refine AllTill.cons (o := ⟨some 43, _, _, _, _, _⟩) rfl (fun K hK => ?_) ?_
          · refine step_fresh (enc := encI) (E := 29) rfl [⟨0, 9, 0, 0, false, false, 0, .slice (some ⟨g, 0, none⟩) 3 512⟩, ⟨0, 5, 0, 0, true, false, 0, .slice none 0 0⟩, ⟨0, 12, 0, 0, true, false, 0, .slice none 0 0⟩, ⟨0, 0, 0, 0, false, false, 0, .slice (some ⟨g, 0, none⟩) 9 512⟩, ⟨1, 0, 0, 5, false, false, 0, .slice none 0 0⟩, ⟨0, 0, 0, 0, true, false, 0, .slice (some ⟨g, 0, none⟩) 12 512⟩, ⟨1, 0, 0, 99, false, false, 0, .slice none 0 0⟩] #[.int .i64 0, .int .i64 9, .int .i64 0, .int .i64 0, .bool false, .bool false, .int .u64 0, .slice (some ⟨g, 0, none⟩) 3 512, .int .i64 0, .int .i64 5, .int .i64 0, .int .i64 0, .bool true, .bool false, .int .u64 0, .slice none 0 0, .int .i64 0, .int .i64 12, .int .i64 0, .int .i64 0, .bool true, .bool false, .int .u64 0, .slice none 0 0, .int .i64 0, .int .i64 0, .int .i64 0, .int .i64 0, .bool false, .bool false, .int .u64 0, .slice (some ⟨g, 0, none⟩) 9 512, .int .i64 1, .int .i64 0, .int .i64 0, .int .i64 5, .bool false, .bool false, .int .u64 0, .slice none 0 0, .int .i64 0, .int .i64 0, .int .i64 0, .int .i64 0, .bool true, .bool false, .int .u64 0, .slice (some ⟨g, 0, none⟩) 12 512, .int .i64 1, .int .i64 0, .int .i64 0, .int .i64 99, .bool false, .bool false, .int .u64 0, .slice none 0 0] rfl (by simp) (by kernel_rfl) ?_
            intro W34 v34 g34 f34 hg34 hx34
            have f8 := f8.below hx34
            have f20 := f20.below hx34
            have hb := below_call hb hb.size hx34
            refine hK.out _ _ (trivial) (fun hHeld => ?_)
            clear hK K
            try simp only [Act.put, List.setIfInBounds_toArray, List.set_cons_zero, List.set_cons_succ]
            refine wpTill_ready (rs := [40]) (by kernel_rfl) (by simp) ?_
            refine AllTill.cons (o := ⟨some 49, _, _, _, _, _⟩) rfl (fun K hK => ?_) AllTill.nil
            refine step_fresh (enc := encI) (E := 29) rfl [⟨0, 0, 0, 0, true, false, 0, .slice none 0 0⟩, ⟨1, 0, 0, 0, false, false, 0, .slice none 0 0⟩, ⟨0, 0, 0, 0, false, false, 0, .slice (some ⟨g, 0, none⟩) 1 512⟩] #[.int .i64 0, .int .i64 0, .int .i64 0, .int .i64 0, .bool true, .bool false, .int .u64 0, .slice none 0 0, .int .i64 1, .int .i64 0, .int .i64 0, .int .i64 0, .bool false, .bool false, .int .u64 0, .slice none 0 0, .int .i64 0, .int .i64 0, .int .i64 0, .int .i64 0, .bool false, .bool false, .int .u64 0, .slice (some ⟨g, 0, none⟩) 1 512] rfl (by simp) (by kernel_rfl) ?_
            intro W40 v40 g40 f40 hg40 hx40
            have f8 := f8.below hx40
            have f20 := f20.below hx40
            have f34 := f34.below hx40
            have hb := below_call hb hb.size hx40
            obtain ⟨a8, c8, e8, _, _⟩ := f8.shape
            subst e8
            obtain ⟨a20, c20, e20, _, _⟩ := f20.shape
            subst e20
            obtain ⟨a34, c34, e34, _, _⟩ := f34.shape
            subst e34
            obtain ⟨a40, c40, e40, _, _⟩ := f40.shape
            subst e40
            refine hK.out _ _ (trivial) (fun hHeld => ?_)
            clear hK K
            try simp only [Act.put, List.setIfInBounds_toArray, List.set_cons_zero, List.set_cons_succ]
            refine wpTill_ready (rs := [41]) (by kernel_rfl) (by simp) ?_
            refine AllTill.cons (o := ⟨some 50, _, _, _, _, _⟩) rfl (fun K hK => ?_) AllTill.nil
            refine step_fresh (enc := encV) (E := 23) rfl [.slice a8 4 c8, .slice a20 9 c20, .slice a34 7 c34, .slice a40 3 c40] #[.slice a8 4 c8, .slice a20 9 c20, .slice a34 7 c34, .slice a40 3 c40] rfl (by simp) (by kernel_rfl) ?_
            intro W41 v41 g41 f41 hg41 hx41
            have f8 := f8.below hx41
            have f20 := f20.below hx41
            have f34 := f34.below hx41
            have f40 := f40.below hx41
            have hb := below_call hb hb.size hx41
            obtain ⟨a41, c41, e41, _, _⟩ := f41.shape
            subst e41
            refine hK.out _ _ (trivial) (fun hHeld => ?_)
            clear hK K
            try simp only [Act.put, List.setIfInBounds_toArray, List.set_cons_zero, List.set_cons_succ]
            refine wpTill_take0 (i := 42) (oi := ⟨some 51, _, _, _, _, _⟩) (v := ?_) rfl (by kernel_rfl) (fun _ _ _ h => h) (Or.inl ⟨by rfl, ?_⟩) (fun _ => hHeld) ?_
            rotate_left
            · intro w hSw
              (try dsimp only at hSw)
              go_simp
              try with_reducible rfl
            try simp only [Act.put, List.setIfInBounds_toArray, List.set_cons_zero, List.set_cons_succ]
            refine wpTill_done (by kernel_rfl) ?_ _
            go_wp2_with fail
            go_meet
            case rel => exact ⟨rfl, rfl, nums_ok hb HG.out f8 f20 f34 f40 f41⟩
          refine AllTill.cons (o := ⟨some 49, _, _, _, _, _⟩) rfl (fun K hK => ?_) ?_
          · refine step_fresh (enc := encI) (E := 29) rfl [⟨0, 0, 0, 0, true, false, 0, .slice none 0 0⟩, ⟨1, 0, 0, 0, false, false, 0, .slice none 0 0⟩, ⟨0, 0, 0, 0, false, false, 0, .slice (some ⟨g, 0, none⟩) 1 512⟩] #[.int .i64 0, .int .i64 0, .int .i64 0, .int .i64 0, .bool true, .bool false, .int .u64 0, .slice none 0 0, .int .i64 1, .int .i64 0, .int .i64 0, .int .i64 0, .bool false, .bool false, .int .u64 0, .slice none 0 0, .int .i64 0, .int .i64 0, .int .i64 0, .int .i64 0, .bool false, .bool false, .int .u64 0, .slice (some ⟨g, 0, none⟩) 1 512] rfl (by simp) (by kernel_rfl) ?_
            intro W40 v40 g40 f40 hg40 hx40
            have f8 := f8.below hx40
            have f20 := f20.below hx40
            have hb := below_call hb hb.size hx40
            refine hK.out _ _ (trivial) (fun hHeld => ?_)
            clear hK K
            try simp only [Act.put, List.setIfInBounds_toArray, List.set_cons_zero, List.set_cons_succ]
            refine wpTill_ready (rs := [34]) (by kernel_rfl) (by simp) ?_
            refine AllTill.cons (o := ⟨some 43, _, _, _, _, _⟩) rfl (fun K hK => ?_) AllTill.nil
            refine step_fresh (enc := encI) (E := 29) rfl [⟨0, 9, 0, 0, false, false, 0, .slice (some ⟨g, 0, none⟩) 3 512⟩, ⟨0, 5, 0, 0, true, false, 0, .slice none 0 0⟩, ⟨0, 12, 0, 0, true, false, 0, .slice none 0 0⟩, ⟨0, 0, 0, 0, false, false, 0, .slice (some ⟨g, 0, none⟩) 9 512⟩, ⟨1, 0, 0, 5, false, false, 0, .slice none 0 0⟩, ⟨0, 0, 0, 0, true, false, 0, .slice (some ⟨g, 0, none⟩) 12 512⟩, ⟨1, 0, 0, 99, false, false, 0, .slice none 0 0⟩] #[.int .i64 0, .int .i64 9, .int .i64 0, .int .i64 0, .bool false, .bool false, .int .u64 0, .slice (some ⟨g, 0, none⟩) 3 512, .int .i64 0, .int .i64 5, .int .i64 0, .int .i64 0, .bool true, .bool false, .int .u64 0, .slice none 0 0, .int .i64 0, .int .i64 12, .int .i64 0, .int .i64 0, .bool true, .bool false, .int .u64 0, .slice none 0 0, .int .i64 0, .int .i64 0, .int .i64 0, .int .i64 0, .bool false, .bool false, .int .u64 0, .slice (some ⟨g, 0, none⟩) 9 512, .int .i64 1, .int .i64 0, .int .i64 0, .int .i64 5, .bool false, .bool false, .int .u64 0, .slice none 0 0, .int .i64 0, .int .i64 0, .int .i64 0, .int .i64 0, .bool true, .bool false, .int .u64 0, .slice (some ⟨g, 0, none⟩) 12 512, .int .i64 1, .int .i64 0, .int .i64 0, .int .i64 99, .bool false, .bool false, .int .u64 0, .slice none 0 0] rfl (by simp) (by kernel_rfl) ?_
            intro W34 v34 g34 f34 hg34 hx34
            have f8 := f8.below hx34
            have f20 := f20.below hx34
            have f40 := f40.below hx34
            have hb := below_call hb hb.size hx34
            obtain ⟨a8, c8, e8, _, _⟩ := f8.shape
            subst e8
            obtain ⟨a20, c20, e20, _, _⟩ := f20.shape
            subst e20
            obtain ⟨a34, c34, e34, _, _⟩ := f34.shape
            subst e34
            obtain ⟨a40, c40, e40, _, _⟩ := f40.shape
            subst e40
            refine hK.out _ _ (trivial) (fun hHeld => ?_)
            clear hK K
            try simp only [Act.put, List.setIfInBounds_toArray, List.set_cons_zero, List.set_cons_succ]
            refine wpTill_ready (rs := [41]) (by kernel_rfl) (by simp) ?_
            refine AllTill.cons (o := ⟨some 50, _, _, _, _, _⟩) rfl (fun K hK => ?_) AllTill.nil
            refine step_fresh (enc := encV) (E := 23) rfl [.slice a8 4 c8, .slice a20 9 c20, .slice a34 7 c34, .slice a40 3 c40] #[.slice a8 4 c8, .slice a20 9 c20, .slice a34 7 c34, .slice a40 3 c40] rfl (by simp) (by kernel_rfl) ?_
            intro W41 v41 g41 f41 hg41 hx41
            have f8 := f8.below hx41
            have f20 := f20.below hx41
            have f34 := f34.below hx41
            have f40 := f40.below hx41
            have hb := below_call hb hb.size hx41
            obtain ⟨a41, c41, e41, _, _⟩ := f41.shape
            subst e41
            refine hK.out _ _ (trivial) (fun hHeld => ?_)
            clear hK K
            try simp only [Act.put, List.setIfInBounds_toArray, List.set_cons_zero, List.set_cons_succ]
            refine wpTill_take0 (i := 42) (oi := ⟨some 51, _, _, _, _, _⟩) (v := ?_) rfl (by kernel_rfl) (fun _ _ _ h => h) (Or.inl ⟨by rfl, ?_⟩) (fun _ => hHeld) ?_
            rotate_left
            · intro w hSw
              (try dsimp only at hSw)
              go_simp
              try with_reducible rfl
            try simp only [Act.put, List.setIfInBounds_toArray, List.set_cons_zero, List.set_cons_succ]
            refine wpTill_done (by kernel_rfl) ?_ _
            go_wp2_with fail
            go_meet
            case rel => exact ⟨rfl, rfl, nums_ok hb HG.out f8 f20 f34 f40 f41⟩
          exact AllTill.nil
        refine AllTill.cons (o := ⟨some 43, _, _, _, _, _⟩) rfl (fun K hK => ?_) ?_
        · refine step_fresh (enc := encI) (E := 29) rfl [⟨0, 9, 0, 0, false, false, 0, .slice (some ⟨g, 0, none⟩) 3 512⟩, ⟨0, 5, 0, 0, true, false, 0, .slice none 0 0⟩, ⟨0, 12, 0, 0, true, false, 0, .slice none 0 0⟩, ⟨0, 0, 0, 0, false, false, 0, .slice (some ⟨g, 0, none⟩) 9 512⟩, ⟨1, 0, 0, 5, false, false, 0, .slice none 0 0⟩, ⟨0, 0, 0, 0, true, false, 0, .slice (some ⟨g, 0, none⟩) 12 512⟩, ⟨1, 0, 0, 99, false, false, 0, .slice none 0 0⟩] #[.int .i64 0, .int .i64 9, .int .i64 0, .int .i64 0, .bool false, .bool false, .int .u64 0, .slice (some ⟨g, 0, none⟩) 3 512, .int .i64 0, .int .i64 5, .int .i64 0, .int .i64 0, .bool true, .bool false, .int .u64 0, .slice none 0 0, .int .i64 0, .int .i64 12, .int .i64 0, .int .i64 0, .bool true, .bool false, .int .u64 0, .slice none 0 0, .int .i64 0, .int .i64 0, .int .i64 0, .int .i64 0, .bool false, .bool false, .int .u64 0, .slice (some ⟨g, 0, none⟩) 9 512, .int .i64 1, .int .i64 0, .int .i64 0, .int .i64 5, .bool false, .bool false, .int .u64 0, .slice none 0 0, .int .i64 0, .int .i64 0, .int .i64 0, .int .i64 0, .bool true, .bool false, .int .u64 0, .slice (some ⟨g, 0, none⟩) 12 512, .int .i64 1, .int .i64 0, .int .i64 0, .int .i64 99, .bool false, .bool false, .int .u64 0, .slice none 0 0] rfl (by simp) (by kernel_rfl) ?_
          intro W34 v34 g34 f34 hg34 hx34
          have f8 := f8.below hx34
          have hb := below_call hb hb.size hx34
          refine hK.out _ _ (trivial) (fun hHeld => ?_)
          clear hK K
          try simp only [Act.put, List.setIfInBounds_toArray, List.set_cons_zero, List.set_cons_succ]
          refine wpTill_ready (rs := [20, 40]) (by kernel_rfl) (by simp) ?_
          refine AllTill.cons (o := ⟨some 29, _, _, _, _, _⟩) rfl (fun K hK => ?_) ?_
          · refine step_fresh (enc := encI) (E := 29) rfl [⟨0, 0, 0, 0, true, false, 0, .slice (some ⟨g, 0, none⟩) 5 512⟩, ⟨0, 5, 0, 0, false, false, 0, .slice none 0 0⟩, ⟨0, 5, 0, 0, true, false, 0, .slice none 0 0⟩, ⟨0, 6, 0, 0, true, false, 0, .slice none 0 0⟩, ⟨0, 4, 0, 0, true, false, 0, .slice none 0 0⟩, ⟨1, 0, 0, (-1), false, false, 0, .slice none 0 0⟩, ⟨1, 0, 0, 2, false, false, 0, .slice none 0 0⟩, ⟨1, 0, 0, 9, false, false, 0, .slice none 0 0⟩, ⟨1, 0, 0, 0, false, false, 0, .slice none 0 0⟩] #[.int .i64 0, .int .i64 0, .int .i64 0, .int .i64 0, .bool true, .bool false, .int .u64 0, .slice (some ⟨g, 0, none⟩) 5 512, .int .i64 0, .int .i64 5, .int .i64 0, .int .i64 0, .bool false, .bool false, .int .u64 0, .slice none 0 0, .int .i64 0, .int .i64 5, .int .i64 0, .int .i64 0, .bool true, .bool false, .int .u64 0, .slice none 0 0, .int .i64 0, .int .i64 6, .int .i64 0, .int .i64 0, .bool true, .bool false, .int .u64 0, .slice none 0 0, .int .i64 0, .int .i64 4, .int .i64 0, .int .i64 0, .bool true, .bool false, .int .u64 0, .slice none 0 0, .int .i64 1, .int .i64 0, .int .i64 0, .int .i64 (-1), .bool false, .bool false, .int .u64 0, .slice none 0 0, .int .i64 1, .int .i64 0, .int .i64 0, .int .i64 2, .bool false, .bool false, .int .u64 0, .slice none 0 0, .int .i64 1, .int .i64 0, .int .i64 0, .int .i64 9, .bool false, .bool false, .int .u64 0, .slice none 0 0, .int .i64 1, .int .i64 0, .int .i64 0, .int .i64 0, .bool false, .bool false, .int .u64 0, .slice none 0 0] rfl (by simp) (by kernel_rfl) ?_
            intro W20 v20 g20 f20 hg20 hx20
            have f8 := f8.below hx20
            have f34 := f34.below hx20
            have hb := below_call hb hb.size hx20
            refine hK.out _ _ (trivial) (fun hHeld => ?_)
            clear hK K
            try simp only [Act.put, List.setIfInBounds_toArray, List.set_cons_zero, List.set_cons_succ]
            refine wpTill_ready (rs := [40]) (by kernel_rfl) (by simp) ?_
            refine AllTill.cons (o := ⟨some 49, _, _, _, _, _⟩) rfl (fun K hK => ?_) AllTill.nil
            refine step_fresh (enc := encI) (E := 29) rfl [⟨0, 0, 0, 0, true, false, 0, .slice none 0 0⟩, ⟨1, 0, 0, 0, false, false, 0, .slice none 0 0⟩, ⟨0, 0, 0, 0, false, false, 0, .slice (some ⟨g, 0, none⟩) 1 512⟩] #[.int .i64 0, .int .i64 0, .int .i64 0, .int .i64 0, .bool true, .bool false, .int .u64 0, .slice none 0 0, .int .i64 1, .int .i64 0, .int .i64 0, .int .i64 0, .bool false, .bool false, .int .u64 0, .slice none 0 0, .int .i64 0, .int .i64 0, .int .i64 0, .int .i64 0, .bool false, .bool false, .int .u64 0, .slice (some ⟨g, 0, none⟩) 1 512] rfl (by simp) (by kernel_rfl) ?_
            intro W40 v40 g40 f40 hg40 hx40
            have f8 := f8.below hx40
            have f34 := f34.below hx40
            have f20 := f20.below hx40
            have hb := below_call hb hb.size hx40
            obtain ⟨a8, c8, e8, _, _⟩ := f8.shape
            subst e8
            obtain ⟨a20, c20, e20, _, _⟩ := f20.shape
            subst e20
            obtain ⟨a34, c34, e34, _, _⟩ := f34.shape
            subst e34
            obtain ⟨a40, c40, e40, _, _⟩ := f40.shape
            subst e40
            refine hK.out _ _ (trivial) (fun hHeld => ?_)
            clear hK K
            try simp only [Act.put, List.setIfInBounds_toArray, List.set_cons_zero, List.set_cons_succ]
            refine wpTill_ready (rs := [41]) (by kernel_rfl) (by simp) ?_
            refine AllTill.cons (o := ⟨some 50, _, _, _, _, _⟩) rfl (fun K hK => ?_) AllTill.nil
            refine step_fresh (enc := encV) (E := 23) rfl [.slice a8 4 c8, .slice a20 9 c20, .slice a34 7 c34, .slice a40 3 c40] #[.slice a8 4 c8, .slice a20 9 c20, .slice a34 7 c34, .slice a40 3 c40] rfl (by simp) (by kernel_rfl) ?_
            intro W41 v41 g41 f41 hg41 hx41
            have f8 := f8.below hx41
            have f20 := f20.below hx41
            have f34 := f34.below hx41
            have f40 := f40.below hx41
            have hb := below_call hb hb.size hx41
            obtain ⟨a41, c41, e41, _, _⟩ := f41.shape
            subst e41
            refine hK.out _ _ (trivial) (fun hHeld => ?_)
            clear hK K
            try simp only [Act.put, List.setIfInBounds_toArray, List.set_cons_zero, List.set_cons_succ]
            refine wpTill_take0 (i := 42) (oi := ⟨some 51, _, _, _, _, _⟩) (v := ?_) rfl (by kernel_rfl) (fun _ _ _ h => h) (Or.inl ⟨by rfl, ?_⟩) (fun _ => hHeld) ?_
            rotate_left
            · intro w hSw
              (try dsimp only at hSw)
              go_simp
              try with_reducible rfl
            try simp only [Act.put, List.setIfInBounds_toArray, List.set_cons_zero, List.set_cons_succ]
            refine wpTill_done (by kernel_rfl) ?_ _
            go_wp2_with fail
            go_meet
            case rel => exact ⟨rfl, rfl, nums_ok hb HG.out f8 f20 f34 f40 f41⟩
          refine AllTill.cons (o := ⟨some 49, _, _, _, _, _⟩) rfl (fun K hK => ?_) ?_
          · refine step_fresh (enc := encI) (E := 29) rfl [⟨0, 0, 0, 0, true, false, 0, .slice none 0 0⟩, ⟨1, 0, 0, 0, false, false, 0, .slice none 0 0⟩, ⟨0, 0, 0, 0, false, false, 0, .slice (some ⟨g, 0, none⟩) 1 512⟩] #[.int .i64 0, .int .i64 0, .int .i64 0, .int .i64 0, .bool true, .bool false, .int .u64 0, .slice none 0 0, .int .i64 1, .int .i64 0, .int .i64 0, .int .i64 0, .bool false, .bool false, .int .u64 0, .slice none 0 0, .int .i64 0, .int .i64 0, .int .i64 0, .int .i64 0, .bool false, .bool false, .int .u64 0, .slice (some ⟨g, 0, none⟩) 1 512] rfl (by simp) (by kernel_rfl) ?_
            intro W40 v40 g40 f40 hg40 hx40
            have f8 := f8.below hx40
            have f34 := f34.below hx40
            have hb := below_call hb hb.size hx40
            refine hK.out _ _ (trivial) (fun hHeld => ?_)
            clear hK K
            try simp only [Act.put, List.setIfInBounds_toArray, List.set_cons_zero, List.set_cons_succ]
            refine wpTill_ready (rs := [20]) (by kernel_rfl) (by simp) ?_
            refine AllTill.cons (o := ⟨some 29, _, _, _, _, _⟩) rfl (fun K hK => ?_) AllTill.nil
            refine step_fresh (enc := encI) (E := 29) rfl [⟨0, 0, 0, 0, true, false, 0, .slice (some ⟨g, 0, none⟩) 5 512⟩, ⟨0, 5, 0, 0, false, false, 0, .slice none 0 0⟩, ⟨0, 5, 0, 0, true, false, 0, .slice none 0 0⟩, ⟨0, 6, 0, 0, true, false, 0, .slice none 0 0⟩, ⟨0, 4, 0, 0, true, false, 0, .slice none 0 0⟩, ⟨1, 0, 0, (-1), false, false, 0, .slice none 0 0⟩, ⟨1, 0, 0, 2, false, false, 0, .slice none 0 0⟩, ⟨1, 0, 0, 9, false, false, 0, .slice none 0 0⟩, ⟨1, 0, 0, 0, false, false, 0, .slice none 0 0⟩] #[.int .i64 0, .int .i64 0, .int .i64 0, .int .i64 0, .bool true, .bool false, .int .u64 0, .slice (some ⟨g, 0, none⟩) 5 512, .int .i64 0, .int .i64 5, .int .i64 0, .int .i64 0, .bool false, .bool false, .int .u64 0, .slice none 0 0, .int .i64 0, .int .i64 5, .int .i64 0, .int .i64 0, .bool true, .bool false, .int .u64 0, .slice none 0 0, .int .i64 0, .int .i64 6, .int .i64 0, .int .i64 0, .bool true, .bool false, .int .u64 0, .slice none 0 0, .int .i64 0, .int .i64 4, .int .i64 0, .int .i64 0, .bool true, .bool false, .int .u64 0, .slice none 0 0, .int .i64 1, .int .i64 0, .int .i64 0, .int .i64 (-1), .bool false, .bool false, .int .u64 0, .slice none 0 0, .int .i64 1, .int .i64 0, .int .i64 0, .int .i64 2, .bool false, .bool false, .int .u64 0, .slice none 0 0, .int .i64 1, .int .i64 0, .int .i64 0, .int .i64 9, .bool false, .bool false, .int .u64 0, .slice none 0 0, .int .i64 1, .int .i64 0, .int .i64 0, .int .i64 0, .bool false, .bool false, .int .u64 0, .slice none 0 0] rfl (by simp) (by kernel_rfl) ?_
            intro W20 v20 g20 f20 hg20 hx20
            have f8 := f8.below hx20
            have f34 := f34.below hx20
            have f40 := f40.below hx20
            have hb := below_call hb hb.size hx20
            obtain ⟨a8, c8, e8, _, _⟩ := f8.shape
            subst e8
            obtain ⟨a20, c20, e20, _, _⟩ := f20.shape
            subst e20
            obtain ⟨a34, c34, e34, _, _⟩ := f34.shape
            subst e34
            obtain ⟨a40, c40, e40, _, _⟩ := f40.shape
            subst e40
            refine hK.out _ _ (trivial) (fun hHeld => ?_)
            clear hK K
            try simp only [Act.put, List.setIfInBounds_toArray, List.set_cons_zero, List.set_cons_succ]
            refine wpTill_ready (rs := [41]) (by kernel_rfl) (by simp) ?_
            refine AllTill.cons (o := ⟨some 50, _, _, _, _, _⟩) rfl (fun K hK => ?_) AllTill.nil
            refine step_fresh (enc := encV) (E := 23) rfl [.slice a8 4 c8, .slice a20 9 c20, .slice a34 7 c34, .slice a40 3 c40] #[.slice a8 4 c8, .slice a20 9 c20, .slice a34 7 c34, .slice a40 3 c40] rfl (by simp) (by kernel_rfl) ?_
            intro W41 v41 g41 f41 hg41 hx41
            have f8 := f8.below hx41
            have f20 := f20.below hx41
            have f34 := f34.below hx41
            have f40 := f40.below hx41
            have hb := below_call hb hb.size hx41
            obtain ⟨a41, c41, e41, _, _⟩ := f41.shape
            subst e41
            refine hK.out _ _ (trivial) (fun hHeld => ?_)
            clear hK K
            try simp only [Act.put, List.setIfInBounds_toArray, List.set_cons_zero, List.set_cons_succ]
            refine wpTill_take0 (i := 42) (oi := ⟨some 51, _, _, _, _, _⟩) (v := ?_) rfl (by kernel_rfl) (fun _ _ _ h => h) (Or.inl ⟨by rfl, ?_⟩) (fun _ => hHeld) ?_
            rotate_left
            · intro w hSw
              (try dsimp only at hSw)
              go_simp
              try with_reducible rfl
            try simp only [Act.put, List.setIfInBounds_toArray, List.set_cons_zero, List.set_cons_succ]
            refine wpTill_done (by kernel_rfl) ?_ _
            go_wp2_with fail
            go_meet
            case rel => exact ⟨rfl, rfl, nums_ok hb HG.out f8 f20 f34 f40 f41⟩
          exact AllTill.nil
        refine AllTill.cons (o := ⟨some 49, _, _, _, _, _⟩) rfl (fun K hK => ?_) ?_
        · refine step_fresh (enc := encI) (E := 29) rfl [⟨0, 0, 0, 0, true, false, 0, .slice none 0 0⟩, ⟨1, 0, 0, 0, false, false, 0, .slice none 0 0⟩, ⟨0, 0, 0, 0, false, false, 0, .slice (some ⟨g, 0, none⟩) 1 512⟩] #[.int .i64 0, .int .i64 0, .int .i64 0, .int .i64 0, .bool true, .bool false, .int .u64 0, .slice none 0 0, .int .i64 1, .int .i64 0, .int .i64 0, .int .i64 0, .bool false, .bool false, .int .u64 0, .slice none 0 0, .int .i64 0, .int .i64 0, .int .i64 0, .int .i64 0, .bool false, .bool false, .int .u64 0, .slice (some ⟨g, 0, none⟩) 1 512] rfl (by simp) (by kernel_rfl) ?_
          intro W40 v40 g40 f40 hg40 hx40
          have f8 := f8.below hx40
          have hb := below_call hb hb.size hx40
          refine hK.out _ _ (trivial) (fun hHeld => ?_)
          clear hK K
          try simp only [Act.put, List.setIfInBounds_toArray, List.set_cons_zero, List.set_cons_succ]
          refine wpTill_ready (rs := [20, 34]) (by kernel_rfl) (by simp) ?_
          refine AllTill.cons (o := ⟨some 29, _, _, _, _, _⟩) rfl (fun K hK => ?_) ?_
          · refine step_fresh (enc := encI) (E := 29) rfl [⟨0, 0, 0, 0, true, false, 0, .slice (some ⟨g, 0, none⟩) 5 512⟩, ⟨0, 5, 0, 0, false, false, 0, .slice none 0 0⟩, ⟨0, 5, 0, 0, true, false, 0, .slice none 0 0⟩, ⟨0, 6, 0, 0, true, false, 0, .slice none 0 0⟩, ⟨0, 4, 0, 0, true, false, 0, .slice none 0 0⟩, ⟨1, 0, 0, (-1), false, false, 0, .slice none 0 0⟩, ⟨1, 0, 0, 2, false, false, 0, .slice none 0 0⟩, ⟨1, 0, 0, 9, false, false, 0, .slice none 0 0⟩, ⟨1, 0, 0, 0, false, false, 0, .slice none 0 0⟩] #[.int .i64 0, .int .i64 0, .int .i64 0, .int .i64 0, .bool true, .bool false, .int .u64 0, .slice (some ⟨g, 0, none⟩) 5 512, .int .i64 0, .int .i64 5, .int .i64 0, .int .i64 0, .bool false, .bool false, .int .u64 0, .slice none 0 0, .int .i64 0, .int .i64 5, .int .i64 0, .int .i64 0, .bool true, .bool false, .int .u64 0, .slice none 0 0, .int .i64 0, .int .i64 6, .int .i64 0, .int .i64 0, .bool true, .bool false, .int .u64 0, .slice none 0 0, .int .i64 0, .int .i64 4, .int .i64 0, .int .i64 0, .bool true, .bool false, .int .u64 0, .slice none 0 0, .int .i64 1, .int .i64 0, .int .i64 0, .int .i64 (-1), .bool false, .bool false, .int .u64 0, .slice none 0 0, .int .i64 1, .int .i64 0, .int .i64 0, .int .i64 2, .bool false, .bool false, .int .u64 0, .slice none 0 0, .int .i64 1, .int .i64 0, .int .i64 0, .int .i64 9, .bool false, .bool false, .int .u64 0, .slice none 0 0, .int .i64 1, .int .i64 0, .int .i64 0, .int .i64 0, .bool false, .bool false, .int .u64 0, .slice none 0 0] rfl (by simp) (by kernel_rfl) ?_
            intro W20 v20 g20 f20 hg20 hx20
            have f8 := f8.below hx20
            have f40 := f40.below hx20
            have hb := below_call hb hb.size hx20
            refine hK.out _ _ (trivial) (fun hHeld => ?_)
            clear hK K
            try simp only [Act.put, List.setIfInBounds_toArray, List.set_cons_zero, List.set_cons_succ]
            refine wpTill_ready (rs := [34]) (by kernel_rfl) (by simp) ?_
            refine AllTill.cons (o := ⟨some 43, _, _, _, _, _⟩) rfl (fun K hK => ?_) AllTill.nil
            refine step_fresh (enc := encI) (E := 29) rfl [⟨0, 9, 0, 0, false, false, 0, .slice (some ⟨g, 0, none⟩) 3 512⟩, ⟨0, 5, 0, 0, true, false, 0, .slice none 0 0⟩, ⟨0, 12, 0, 0, true, false, 0, .slice none 0 0⟩, ⟨0, 0, 0, 0, false, false, 0, .slice (some ⟨g, 0, none⟩) 9 512⟩, ⟨1, 0, 0, 5, false, false, 0, .slice none 0 0⟩, ⟨0, 0, 0, 0, true, false, 0, .slice (some ⟨g, 0, none⟩) 12 512⟩, ⟨1, 0, 0, 99, false, false, 0, .slice none 0 0⟩] #[.int .i64 0, .int .i64 9, .int .i64 0, .int .i64 0, .bool false, .bool false, .int .u64 0, .slice (some ⟨g, 0, none⟩) 3 512, .int .i64 0, .int .i64 5, .int .i64 0, .int .i64 0, .bool true, .bool false, .int .u64 0, .slice none 0 0, .int .i64 0, .int .i64 12, .int .i64 0, .int .i64 0, .bool true, .bool false, .int .u64 0, .slice none 0 0, .int .i64 0, .int .i64 0, .int .i64 0, .int .i64 0, .bool false, .bool false, .int .u64 0, .slice (some ⟨g, 0, none⟩) 9 512, .int .i64 1, .int .i64 0, .int .i64 0, .int .i64 5, .bool false, .bool false, .int .u64 0, .slice none 0 0, .int .i64 0, .int .i64 0, .int .i64 0, .int .i64 0, .bool true, .bool false, .int .u64 0, .slice (some ⟨g, 0, none⟩) 12 512, .int .i64 1, .int .i64 0, .int .i64 0, .int .i64 99, .bool false, .bool false, .int .u64 0, .slice none 0 0] rfl (by simp) (by kernel_rfl) ?_
            intro W34 v34 g34 f34 hg34 hx34
            have f8 := f8.below hx34
            have f40 := f40.below hx34
            have f20 := f20.below hx34
            have hb := below_call hb hb.size hx34
            obtain ⟨a8, c8, e8, _, _⟩ := f8.shape
            subst e8
            obtain ⟨a20, c20, e20, _, _⟩ := f20.shape
            subst e20
            obtain ⟨a34, c34, e34, _, _⟩ := f34.shape
            subst e34
            obtain ⟨a40, c40, e40, _, _⟩ := f40.shape
            subst e40
            refine hK.out _ _ (trivial) (fun hHeld => ?_)
            clear hK K
            try simp only [Act.put, List.setIfInBounds_toArray, List.set_cons_zero, List.set_cons_succ]
            refine wpTill_ready (rs := [41]) (by kernel_rfl) (by simp) ?_
            refine AllTill.cons (o := ⟨some 50, _, _, _, _, _⟩) rfl (fun K hK => ?_) AllTill.nil
            refine step_fresh (enc := encV) (E := 23) rfl [.slice a8 4 c8, .slice a20 9 c20, .slice a34 7 c34, .slice a40 3 c40] #[.slice a8 4 c8, .slice a20 9 c20, .slice a34 7 c34, .slice a40 3 c40] rfl (by simp) (by kernel_rfl) ?_
            intro W41 v41 g41 f41 hg41 hx41
            have f8 := f8.below hx41
            have f20 := f20.below hx41
            have f34 := f34.below hx41
            have f40 := f40.below hx41
            have hb := below_call hb hb.size hx41
            obtain ⟨a41, c41, e41, _, _⟩ := f41.shape
            subst e41
            refine hK.out _ _ (trivial) (fun hHeld => ?_)
            clear hK K
            try simp only [Act.put, List.setIfInBounds_toArray, List.set_cons_zero, List.set_cons_succ]
            refine wpTill_take0 (i := 42) (oi := ⟨some 51, _, _, _, _, _⟩) (v := ?_) rfl (by kernel_rfl) (fun _ _ _ h => h) (Or.inl ⟨by rfl, ?_⟩) (fun _ => hHeld) ?_
            rotate_left
            · intro w hSw
              (try dsimp only at hSw)
              go_simp
              try with_reducible rfl
            try simp only [Act.put, List.setIfInBounds_toArray, List.set_cons_zero, List.set_cons_succ]
            refine wpTill_done (by kernel_rfl) ?_ _
            go_wp2_with fail
            go_meet
            case rel => exact ⟨rfl, rfl, nums_ok hb HG.out f8 f20 f34 f40 f41⟩
          refine AllTill.cons (o := ⟨some 43, _, _, _, _, _⟩) rfl (fun K hK => ?_) ?_
          · refine step_fresh (enc := encI) (E := 29) rfl [⟨0, 9, 0, 0, false, false, 0, .slice (some ⟨g, 0, none⟩) 3 512⟩, ⟨0, 5, 0, 0, true, false, 0, .slice none 0 0⟩, ⟨0, 12, 0, 0, true, false, 0, .slice none 0 0⟩, ⟨0, 0, 0, 0, false, false, 0, .slice (some ⟨g, 0, none⟩) 9 512⟩, ⟨1, 0, 0, 5, false, false, 0, .slice none 0 0⟩, ⟨0, 0, 0, 0, true, false, 0, .slice (some ⟨g, 0, none⟩) 12 512⟩, ⟨1, 0, 0, 99, false, false, 0, .slice none 0 0⟩] #[.int .i64 0, .int .i64 9, .int .i64 0, .int .i64 0, .bool false, .bool false, .int .u64 0, .slice (some ⟨g, 0, none⟩) 3 512, .int .i64 0, .int .i64 5, .int .i64 0, .int .i64 0, .bool true, .bool false, .int .u64 0, .slice none 0 0, .int .i64 0, .int .i64 12, .int .i64 0, .int .i64 0, .bool true, .bool false, .int .u64 0, .slice none 0 0, .int .i64 0, .int .i64 0, .int .i64 0, .int .i64 0, .bool false, .bool false, .int .u64 0, .slice (some ⟨g, 0, none⟩) 9 512, .int .i64 1, .int .i64 0, .int .i64 0, .int .i64 5, .bool false, .bool false, .int .u64 0, .slice none 0 0, .int .i64 0, .int .i64 0, .int .i64 0, .int .i64 0, .bool true, .bool false, .int .u64 0, .slice (some ⟨g, 0, none⟩) 12 512, .int .i64 1, .int .i64 0, .int .i64 0, .int .i64 99, .bool false, .bool false, .int .u64 0, .slice none 0 0] rfl (by simp) (by kernel_rfl) ?_
            intro W34 v34 g34 f34 hg34 hx34
            have f8 := f8.below hx34
            have f40 := f40.below hx34
            have hb := below_call hb hb.size hx34
            refine hK.out _ _ (trivial) (fun hHeld => ?_)
            clear hK K
            try simp only [Act.put, List.setIfInBounds_toArray, List.set_cons_zero, List.set_cons_succ]
            refine wpTill_ready (rs := [20]) (by kernel_rfl) (by simp) ?_
            refine AllTill.cons (o := ⟨some 29, _, _, _, _, _⟩) rfl (fun K hK => ?_) AllTill.nil
            refine step_fresh (enc := encI) (E := 29) rfl [⟨0, 0, 0, 0, true, false, 0, .slice (some ⟨g, 0, none⟩) 5 512⟩, ⟨0, 5, 0, 0, false, false, 0, .slice none 0 0⟩, ⟨0, 5, 0, 0, true, false, 0, .slice none 0 0⟩, ⟨0, 6, 0, 0, true, false, 0, .slice none 0 0⟩, ⟨0, 4, 0, 0, true, false, 0, .slice none 0 0⟩, ⟨1, 0, 0, (-1), false, false, 0, .slice none 0 0⟩, ⟨1, 0, 0, 2, false, false, 0, .slice none 0 0⟩, ⟨1, 0, 0, 9, false, false, 0, .slice none 0 0⟩, ⟨1, 0, 0, 0, false, false, 0, .slice none 0 0⟩] #[.int .i64 0, .int .i64 0, .int .i64 0, .int .i64 0, .bool true, .bool false, .int .u64 0, .slice (some ⟨g, 0, none⟩) 5 512, .int .i64 0, .int .i64 5, .int .i64 0, .int .i64 0, .bool false, .bool false, .int .u64 0, .slice none 0 0, .int .i64 0, .int .i64 5, .int .i64 0, .int .i64 0, .bool true, .bool false, .int .u64 0, .slice none 0 0, .int .i64 0, .int .i64 6, .int .i64 0, .int .i64 0, .bool true, .bool false, .int .u64 0, .slice none 0 0, .int .i64 0, .int .i64 4, .int .i64 0, .int .i64 0, .bool true, .bool false, .int .u64 0, .slice none 0 0, .int .i64 1, .int .i64 0, .int .i64 0, .int .i64 (-1), .bool false, .bool false, .int .u64 0, .slice none 0 0, .int .i64 1, .int .i64 0, .int .i64 0, .int .i64 2, .bool false, .bool false, .int .u64 0, .slice none 0 0, .int .i64 1, .int .i64 0, .int .i64 0, .int .i64 9, .bool false, .bool false, .int .u64 0, .slice none 0 0, .int .i64 1, .int .i64 0, .int .i64 0, .int .i64 0, .bool false, .bool false, .int .u64 0, .slice none 0 0] rfl (by simp) (by kernel_rfl) ?_
            intro W20 v20 g20 f20 hg20 hx20
            have f8 := f8.below hx20
            have f40 := f40.below hx20
            have f34 := f34.below hx20
            have hb := below_call hb hb.size hx20
            obtain ⟨a8, c8, e8, _, _⟩ := f8.shape
            subst e8
            obtain ⟨a20, c20, e20, _, _⟩ := f20.shape
            subst e20
            obtain ⟨a34, c34, e34, _, _⟩ := f34.shape
            subst e34
            obtain ⟨a40, c40, e40, _, _⟩ := f40.shape
            subst e40
            refine hK.out _ _ (trivial) (fun hHeld => ?_)
            clear hK K
            try simp only [Act.put, List.setIfInBounds_toArray, List.set_cons_zero, List.set_cons_succ]
            refine wpTill_ready (rs := [41]) (by kernel_rfl) (by simp) ?_
            refine AllTill.cons (o := ⟨some 50, _, _, _, _, _⟩) rfl (fun K hK => ?_) AllTill.nil
            refine step_fresh (enc := encV) (E := 23) rfl [.slice a8 4 c8, .slice a20 9 c20, .slice a34 7 c34, .slice a40 3 c40] #[.slice a8 4 c8, .slice a20 9 c20, .slice a34 7 c34, .slice a40 3 c40] rfl (by simp) (by kernel_rfl) ?_
            intro W41 v41 g41 f41 hg41 hx41
            have f8 := f8.below hx41
            have f20 := f20.below hx41
            have f34 := f34.below hx41
            have f40 := f40.below hx41
            have hb := below_call hb hb.size hx41
            obtain ⟨a41, c41, e41, _, _⟩ := f41.shape
            subst e41
            refine hK.out _ _ (trivial) (fun hHeld => ?_)
            clear hK K
            try simp only [Act.put, List.setIfInBounds_toArray, List.set_cons_zero, List.set_cons_succ]
            refine wpTill_take0 (i := 42) (oi := ⟨some 51, _, _, _, _, _⟩) (v := ?_) rfl (by kernel_rfl) (fun _ _ _ h => h) (Or.inl ⟨by rfl, ?_⟩) (fun _ => hHeld) ?_
            rotate_left
            · intro w hSw
              (try dsimp only at hSw)
              go_simp
              try with_reducible rfl
            try simp only [Act.put, List.setIfInBounds_toArray, List.set_cons_zero, List.set_cons_succ]
            refine wpTill_done (by kernel_rfl) ?_ _
            go_wp2_with fail
            go_meet
            case rel => exact ⟨rfl, rfl, nums_ok hb HG.out f8 f20 f34 f40 f41⟩
          exact AllTill.nil
        exact AllTill.nil
      refine AllTill.cons (o := ⟨some 29, _, _, _, _, _⟩) rfl (fun K hK => ?_) ?_
      · refine step_fresh (enc := encI) (E := 29) rfl [⟨0, 0, 0, 0, true, false, 0, .slice (some ⟨g, 0, none⟩) 5 512⟩, ⟨0, 5, 0, 0, false, false, 0, .slice none 0 0⟩, ⟨0, 5, 0, 0, true, false, 0, .slice none 0 0⟩, ⟨0, 6, 0, 0, true, false, 0, .slice none 0 0⟩, ⟨0, 4, 0, 0, true, false, 0, .slice none 0 0⟩, ⟨1, 0, 0, (-1), false, false, 0, .slice none 0 0⟩, ⟨1, 0, 0, 2, false, false, 0, .slice none 0 0⟩, ⟨1, 0, 0, 9, false, false, 0, .slice none 0 0⟩, ⟨1, 0, 0, 0, false, false, 0, .slice none 0 0⟩] #[.int .i64 0, .int .i64 0, .int .i64 0, .int .i64 0, .bool true, .bool false, .int .u64 0, .slice (some ⟨g, 0, none⟩) 5 512, .int .i64 0, .int .i64 5, .int .i64 0, .int .i64 0, .bool false, .bool false, .int .u64 0, .slice none 0 0, .int .i64 0, .int .i64 5, .int .i64 0, .int .i64 0, .bool true, .bool false, .int .u64 0, .slice none 0 0, .int .i64 0, .int .i64 6, .int .i64 0, .int .i64 0, .bool true, .bool false, .int .u64 0, .slice none 0 0, .int .i64 0, .int .i64 4, .int .i64 0, .int .i64 0, .bool true, .bool false, .int .u64 0, .slice none 0 0, .int .i64 1, .int .i64 0, .int .i64 0, .int .i64 (-1), .bool false, .bool false, .int .u64 0, .slice none 0 0, .int .i64 1, .int .i64 0, .int .i64 0, .int .i64 2, .bool false, .bool false, .int .u64 0, .slice none 0 0, .int .i64 1, .int .i64 0, .int .i64 0, .int .i64 9, .bool false, .bool false, .int .u64 0, .slice none 0 0, .int .i64 1, .int .i64 0, .int .i64 0, .int .i64 0, .bool false, .bool false, .int .u64 0, .slice none 0 0] rfl (by simp) (by kernel_rfl) ?_
        intro W20 v20 g20 f20 hg20 hx20
        have hb := below_call hb hb.size hx20
        refine hK.out _ _ (trivial) (fun hHeld => ?_)
        clear hK K
        try simp only [Act.put, List.setIfInBounds_toArray, List.set_cons_zero, List.set_cons_succ]
        refine wpTill_ready (rs := [8, 34, 40]) (by kernel_rfl) (by simp) ?_
        refine AllTill.cons (o := ⟨some 17, _, _, _, _, _⟩) rfl (fun K hK => ?_) ?_
        · refine step_fresh (enc := encI) (E := 29) rfl [⟨0, 0, 0, 0, false, true, 1099511627777, .slice none 0 0⟩, ⟨0, 0, 0, 0, false, true, 2008, .slice (some ⟨g, 0, none⟩) 40 512⟩, ⟨0, 0, 0, 0, false, true, 2009, .slice (some ⟨g, 0, none⟩) 40 512⟩, ⟨1, 0, 0, 9, false, false, 0, .slice none 0 0⟩] #[.int .i64 0, .int .i64 0, .int .i64 0, .int .i64 0, .bool false, .bool true, .int .u64 1099511627777, .slice none 0 0, .int .i64 0, .int .i64 0, .int .i64 0, .int .i64 0, .bool false, .bool true, .int .u64 2008, .slice (some ⟨g, 0, none⟩) 40 512, .int .i64 0, .int .i64 0, .int .i64 0, .int .i64 0, .bool false, .bool true, .int .u64 2009, .slice (some ⟨g, 0, none⟩) 40 512, .int .i64 1, .int .i64 0, .int .i64 0, .int .i64 9, .bool false, .bool false, .int .u64 0, .slice none 0 0] rfl (by simp) (by kernel_rfl) ?_
          intro W8 v8 g8 f8 hg8 hx8
          have f20 := f20.below hx8
          have hb := below_call hb hb.size hx8
          refine hK.out _ _ (trivial) (fun hHeld => ?_)
          clear hK K
          try simp only [Act.put, List.setIfInBounds_toArray, List.set_cons_zero, List.set_cons_succ]
          refine wpTill_ready (rs := [34, 40]) (by kernel_rfl) (by simp) ?_
          refine AllTill.cons (o := ⟨some 43, _, _, _, _, _⟩) rfl (fun K hK => ?_) ?_
          · refine step_fresh (enc := encI) (E := 29) rfl [⟨0, 9, 0, 0, false, false, 0, .slice (some ⟨g, 0, none⟩) 3 512⟩, ⟨0, 5, 0, 0, true, false, 0, .slice none 0 0⟩, ⟨0, 12, 0, 0, true, false, 0, .slice none 0 0⟩, ⟨0, 0, 0, 0, false, false, 0, .slice (some ⟨g, 0, none⟩) 9 512⟩, ⟨1, 0, 0, 5, false, false, 0, .slice none 0 0⟩, ⟨0, 0, 0, 0, true, false, 0, .slice (some ⟨g, 0, none⟩) 12 512⟩, ⟨1, 0, 0, 99, false, false, 0, .slice none 0 0⟩] #[.int .i64 0, .int .i64 9, .int .i64 0, .int .i64 0, .bool false, .bool false, .int .u64 0, .slice (some ⟨g, 0, none⟩) 3 512, .int .i64 0, .int .i64 5, .int .i64 0, .int .i64 0, .bool true, .bool false, .int .u64 0, .slice none 0 0, .int .i64 0, .int .i64 12, .int .i64 0, .int .i64 0, .bool true, .bool false, .int .u64 0, .slice none 0 0, .int .i64 0, .int .i64 0, .int .i64 0, .int .i64 0, .bool false, .bool false, .int .u64 0, .slice (some ⟨g, 0, none⟩) 9 512, .int .i64 1, .int .i64 0, .int .i64 0, .int .i64 5, .bool false, .bool false, .int .u64 0, .slice none 0 0, .int .i64 0, .int .i64 0, .int .i64 0, .int .i64 0, .bool true, .bool false, .int .u64 0, .slice (some ⟨g, 0, none⟩) 12 512, .int .i64 1, .int .i64 0, .int .i64 0, .int .i64 99, .bool false, .bool false, .int .u64 0, .slice none 0 0] rfl (by simp) (by kernel_rfl) ?_
            intro W34 v34 g34 f34 hg34 hx34
            have f20 := f20.below hx34
            have f8 := f8.below hx34
            have hb := below_call hb hb.size hx34
            refine hK.out _ _ (trivial) (fun hHeld => ?_)
            clear hK K
            try simp only [Act.put, List.setIfInBounds_toArray, List.set_cons_zero, List.set_cons_succ]
            refine wpTill_ready (rs := [40]) (by kernel_rfl) (by simp) ?_
            refine AllTill.cons (o := ⟨some 49, _, _, _, _, _⟩) rfl (fun K hK => ?_) AllTill.nil
            refine step_fresh (enc := encI) (E := 29) rfl [⟨0, 0, 0, 0, true, false, 0, .slice none 0 0⟩, ⟨1, 0, 0, 0, false, false, 0, .slice none 0 0⟩, ⟨0, 0, 0, 0, false, false, 0, .slice (some ⟨g, 0, none⟩) 1 512⟩] #[.int .i64 0, .int .i64 0, .int .i64 0, .int .i64 0, .bool true, .bool false, .int .u64 0, .slice none 0 0, .int .i64 1, .int .i64 0, .int .i64 0, .int .i64 0, .bool false, .bool false, .int .u64 0, .slice none 0 0, .int .i64 0, .int .i64 0, .int .i64 0, .int .i64 0, .bool false, .bool false, .int .u64 0, .slice (some ⟨g, 0, none⟩) 1 512] rfl (by simp) (by kernel_rfl) ?_
            intro W40 v40 g40 f40 hg40 hx40
            have f20 := f20.below hx40
            have f8 := f8.below hx40
            have f34 := f34.below hx40
            have hb := below_call hb hb.size hx40
            obtain ⟨a8, c8, e8, _, _⟩ := f8.shape
            subst e8
            obtain ⟨a20, c20, e20, _, _⟩ := f20.shape
            subst e20
            obtain ⟨a34, c34, e34, _, _⟩ := f34.shape
            subst e34
            obtain ⟨a40, c40, e40, _, _⟩ := f40.shape
            subst e40
            refine hK.out _ _ (trivial) (fun hHeld => ?_)
            clear hK K
            try simp only [Act.put, List.setIfInBounds_toArray, List.set_cons_zero, List.set_cons_succ]
            refine wpTill_ready (rs := [41]) (by kernel_rfl) (by simp) ?_
            refine AllTill.cons (o := ⟨some 50, _, _, _, _, _⟩) rfl (fun K hK => ?_) AllTill.nil
            refine step_fresh (enc := encV) (E := 23) rfl [.slice a8 4 c8, .slice a20 9 c20, .slice a34 7 c34, .slice a40 3 c40] #[.slice a8 4 c8, .slice a20 9 c20, .slice a34 7 c34, .slice a40 3 c40] rfl (by simp) (by kernel_rfl) ?_
            intro W41 v41 g41 f41 hg41 hx41
            have f8 := f8.below hx41
            have f20 := f20.below hx41
            have f34 := f34.below hx41
            have f40 := f40.below hx41
            have hb := below_call hb hb.size hx41
            obtain ⟨a41, c41, e41, _, _⟩ := f41.shape
            subst e41
            refine hK.out _ _ (trivial) (fun hHeld => ?_)
            clear hK K
            try simp only [Act.put, List.setIfInBounds_toArray, List.set_cons_zero, List.set_cons_succ]
            refine wpTill_take0 (i := 42) (oi := ⟨some 51, _, _, _, _, _⟩) (v := ?_) rfl (by kernel_rfl) (fun _ _ _ h => h) (Or.inl ⟨by rfl, ?_⟩) (fun _ => hHeld) ?_
            rotate_left
            · intro w hSw
              (try dsimp only at hSw)
              go_simp
              try with_reducible rfl
            try simp only [Act.put, List.setIfInBounds_toArray, List.set_cons_zero, List.set_cons_succ]
            refine wpTill_done (by kernel_rfl) ?_ _
            go_wp2_with fail
            go_meet
            case rel => exact ⟨rfl, rfl, nums_ok hb HG.out f8 f20 f34 f40 f41⟩
          refine AllTill.cons (o := ⟨some 49, _, _, _, _, _⟩) rfl (fun K hK => ?_) ?_
          · refine step_fresh (enc := encI) (E := 29) rfl [⟨0, 0, 0, 0, true, false, 0, .slice none 0 0⟩, ⟨1, 0, 0, 0, false, false, 0, .slice none 0 0⟩, ⟨0, 0, 0, 0, false, false, 0, .slice (some ⟨g, 0, none⟩) 1 512⟩] #[.int .i64 0, .int .i64 0, .int .i64 0, .int .i64 0, .bool true, .bool false, .int .u64 0, .slice none 0 0, .int .i64 1, .int .i64 0, .int .i64 0, .int .i64 0, .bool false, .bool false, .int .u64 0, .slice none 0 0, .int .i64 0, .int .i64 0, .int .i64 0, .int .i64 0, .bool false, .bool false, .int .u64 0, .slice (some ⟨g, 0, none⟩) 1 512] rfl (by simp) (by kernel_rfl) ?_
            intro W40 v40 g40 f40 hg40 hx40
            have f20 := f20.below hx40
            have f8 := f8.below hx40
            have hb := below_call hb hb.size hx40
            refine hK.out _ _ (trivial) (fun hHeld => ?_)
            clear hK K
            try simp only [Act.put, List.setIfInBounds_toArray, List.set_cons_zero, List.set_cons_succ]
            refine wpTill_ready (rs := [34]) (by kernel_rfl) (by simp) ?_
            refine AllTill.cons (o := ⟨some 43, _, _, _, _, _⟩) rfl (fun K hK => ?_) AllTill.nil
            refine step_fresh (enc := encI) (E := 29) rfl [⟨0, 9, 0, 0, false, false, 0, .slice (some ⟨g, 0, none⟩) 3 512⟩, ⟨0, 5, 0, 0, true, false, 0, .slice none 0 0⟩, ⟨0, 12, 0, 0, true, false, 0, .slice none 0 0⟩, ⟨0, 0, 0, 0, false, false, 0, .slice (some ⟨g, 0, none⟩) 9 512⟩, ⟨1, 0, 0, 5, false, false, 0, .slice none 0 0⟩, ⟨0, 0, 0, 0, true, false, 0, .slice (some ⟨g, 0, none⟩) 12 512⟩, ⟨1, 0, 0, 99, false, false, 0, .slice none 0 0⟩] #[.int .i64 0, .int .i64 9, .int .i64 0, .int .i64 0, .bool false, .bool false, .int .u64 0, .slice (some ⟨g, 0, none⟩) 3 512, .int .i64 0, .int .i64 5, .int .i64 0, .int .i64 0, .bool true, .bool false, .int .u64 0, .slice none 0 0, .int .i64 0, .int .i64 12, .int .i64 0, .int .i64 0, .bool true, .bool false, .int .u64 0, .slice none 0 0, .int .i64 0, .int .i64 0, .int .i64 0, .int .i64 0, .bool false, .bool false, .int .u64 0, .slice (some ⟨g, 0, none⟩) 9 512, .int .i64 1, .int .i64 0, .int .i64 0, .int .i64 5, .bool false, .bool false, .int .u64 0, .slice none 0 0, .int .i64 0, .int .i64 0, .int .i64 0, .int .i64 0, .bool true, .bool false, .int .u64 0, .slice (some ⟨g, 0, none⟩) 12 512, .int .i64 1, .int .i64 0, .int .i64 0, .int .i64 99, .bool false, .bool false, .int .u64 0, .slice none 0 0] rfl (by simp) (by kernel_rfl) ?_
            intro W34 v34 g34 f34 hg34 hx34
            have f20 := f20.below hx34
            have f8 := f8.below hx34
            have f40 := f40.below hx34
            have hb := below_call hb hb.size hx34
            obtain ⟨a8, c8, e8, _, _⟩ := f8.shape
            subst e8
            obtain ⟨a20, c20, e20, _, _⟩ := f20.shape
            subst e20
            obtain ⟨a34, c34, e34, _, _⟩ := f34.shape
            subst e34
            obtain ⟨a40, c40, e40, _, _⟩ := f40.shape
            subst e40
            refine hK.out _ _ (trivial) (fun hHeld => ?_)
            clear hK K
            try simp only [Act.put, List.setIfInBounds_toArray, List.set_cons_zero, List.set_cons_succ]
            refine wpTill_ready (rs := [41]) (by kernel_rfl) (by simp) ?_
            refine AllTill.cons (o := ⟨some 50, _, _, _, _, _⟩) rfl (fun K hK => ?_) AllTill.nil
            refine step_fresh (enc := encV) (E := 23) rfl [.slice a8 4 c8, .slice a20 9 c20, .slice a34 7 c34, .slice a40 3 c40] #[.slice a8 4 c8, .slice a20 9 c20, .slice a34 7 c34, .slice a40 3 c40] rfl (by simp) (by kernel_rfl) ?_
            intro W41 v41 g41 f41 hg41 hx41
            have f8 := f8.below hx41
            have f20 := f20.below hx41
            have f34 := f34.below hx41
            have f40 := f40.below hx41
            have hb := below_call hb hb.size hx41
            obtain ⟨a41, c41, e41, _, _⟩ := f41.shape
            subst e41
            refine hK.out _ _ (trivial) (fun hHeld => ?_)
            clear hK K
            try simp only [Act.put, List.setIfInBounds_toArray, List.set_cons_zero, List.set_cons_succ]
            refine wpTill_take0 (i := 42) (oi := ⟨some 51, _, _, _, _, _⟩) (v := ?_) rfl (by kernel_rfl) (fun _ _ _ h => h) (Or.inl ⟨by rfl, ?_⟩) (fun _ => hHeld) ?_
            rotate_left
            · intro w hSw
              (try dsimp only at hSw)
              go_simp
              try with_reducible rfl
            try simp only [Act.put, List.setIfInBounds_toArray, List.set_cons_zero, List.set_cons_succ]
            refine wpTill_done (by kernel_rfl) ?_ _
            go_wp2_with fail
            go_meet
            case rel => exact ⟨rfl, rfl, nums_ok hb HG.out f8 f20 f34 f40 f41⟩
          exact AllTill.nil
        refine AllTill.cons (o := ⟨some 43, _, _, _, _, _⟩) rfl (fun K hK => ?_) ?_
        · refine step_fresh (enc := encI) (E := 29) rfl [⟨0, 9, 0, 0, false, false, 0, .slice (some ⟨g, 0, none⟩) 3 512⟩, ⟨0, 5, 0, 0, true, false, 0, .slice none 0 0⟩, ⟨0, 12, 0, 0, true, false, 0, .slice none 0 0⟩, ⟨0, 0, 0, 0, false, false, 0, .slice (some ⟨g, 0, none⟩) 9 512⟩, ⟨1, 0, 0, 5, false, false, 0, .slice none 0 0⟩, ⟨0, 0, 0, 0, true, false, 0, .slice (some ⟨g, 0, none⟩) 12 512⟩, ⟨1, 0, 0, 99, false, false, 0, .slice none 0 0⟩] #[.int .i64 0, .int .i64 9, .int .i64 0, .int .i64 0, .bool false, .bool false, .int .u64 0, .slice (some ⟨g, 0, none⟩) 3 512, .int .i64 0, .int .i64 5, .int .i64 0, .int .i64 0, .bool true, .bool false, .int .u64 0, .slice none 0 0, .int .i64 0, .int .i64 12, .int .i64 0, .int .i64 0, .bool true, .bool false, .int .u64 0, .slice none 0 0, .int .i64 0, .int .i64 0, .int .i64 0, .int .i64 0, .bool false, .bool false, .int .u64 0, .slice (some ⟨g, 0, none⟩) 9 512, .int .i64 1, .int .i64 0, .int .i64 0, .int .i64 5, .bool false, .bool false, .int .u64 0, .slice none 0 0, .int .i64 0, .int .i64 0, .int .i64 0, .int .i64 0, .bool true, .bool false, .int .u64 0, .slice (some ⟨g, 0, none⟩) 12 512, .int .i64 1, .int .i64 0, .int .i64 0, .int .i64 99, .bool false, .bool false, .int .u64 0, .slice none 0 0] rfl (by simp) (by kernel_rfl) ?_
          intro W34 v34 g34 f34 hg34 hx34
          have f20 := f20.below hx34
          have hb := below_call hb hb.size hx34
          refine hK.out _ _ (trivial) (fun hHeld => ?_)
          clear hK K
          try simp only [Act.put, List.setIfInBounds_toArray, List.set_cons_zero, List.set_cons_succ]
          refine wpTill_ready (rs := [8, 40]) (by kernel_rfl) (by simp) ?_
          refine AllTill.cons (o := ⟨some 17, _, _, _, _, _⟩) rfl (fun K hK => ?_) ?_
          · refine step_fresh (enc := encI) (E := 29) rfl [⟨0, 0, 0, 0, false, true, 1099511627777, .slice none 0 0⟩, ⟨0, 0, 0, 0, false, true, 2008, .slice (some ⟨g, 0, none⟩) 40 512⟩, ⟨0, 0, 0, 0, false, true, 2009, .slice (some ⟨g, 0, none⟩) 40 512⟩, ⟨1, 0, 0, 9, false, false, 0, .slice none 0 0⟩] #[.int .i64 0, .int .i64 0, .int .i64 0, .int .i64 0, .bool false, .bool true, .int .u64 1099511627777, .slice none 0 0, .int .i64 0, .int .i64 0, .int .i64 0, .int .i64 0, .bool false, .bool true, .int .u64 2008, .slice (some ⟨g, 0, none⟩) 40 512, .int .i64 0, .int .i64 0, .int .i64 0, .int .i64 0, .bool false, .bool true, .int .u64 2009, .slice (some ⟨g, 0, none⟩) 40 512, .int .i64 1, .int .i64 0, .int .i64 0, .int .i64 9, .bool false, .bool false, .int .u64 0, .slice none 0 0] rfl (by simp) (by kernel_rfl) ?_
            intro W8 v8 g8 f8 hg8 hx8
            have f20 := f20.below hx8
            have f34 := f34.below hx8
            have hb := below_call hb hb.size hx8
            refine hK.out _ _ (trivial) (fun hHeld => ?_)
            clear hK K
            try simp only [Act.put, List.setIfInBounds_toArray, List.set_cons_zero, List.set_cons_succ]
            refine wpTill_ready (rs := [40]) (by kernel_rfl) (by simp) ?_
            refine AllTill.cons (o := ⟨some 49, _, _, _, _, _⟩) rfl (fun K hK => ?_) AllTill.nil
            refine step_fresh (enc := encI) (E := 29) rfl [⟨0, 0, 0, 0, true, false, 0, .slice none 0 0⟩, ⟨1, 0, 0, 0, false, false, 0, .slice none 0 0⟩, ⟨0, 0, 0, 0, false, false, 0, .slice (some ⟨g, 0, none⟩) 1 512⟩] #[.int .i64 0, .int .i64 0, .int .i64 0, .int .i64 0, .bool true, .bool false, .int .u64 0, .slice none 0 0, .int .i64 1, .int .i64 0, .int .i64 0, .int .i64 0, .bool false, .bool false, .int .u64 0, .slice none 0 0, .int .i64 0, .int .i64 0, .int .i64 0, .int .i64 0, .bool false, .bool false, .int .u64 0, .slice (some ⟨g, 0, none⟩) 1 512] rfl (by simp) (by kernel_rfl) ?_
            intro W40 v40 g40 f40 hg40 hx40
            have f20 := f20.below hx40
            have f34 := f34.below hx40
            have f8 := f8.below hx40
            have hb := below_call hb hb.size hx40
            obtain ⟨a8, c8, e8, _, _⟩ := f8.shape
            subst e8
            obtain ⟨a20, c20, e20, _, _⟩ := f20.shape
            subst e20
            obtain ⟨a34, c34, e34, _, _⟩ := f34.shape
            subst e34
            obtain ⟨a40, c40, e40, _, _⟩ := f40.shape
            subst e40
            refine hK.out _ _ (trivial) (fun hHeld => ?_)
            clear hK K
            try simp only [Act.put, List.setIfInBounds_toArray, List.set_cons_zero, List.set_cons_succ]
            refine wpTill_ready (rs := [41]) (by kernel_rfl) (by simp) ?_
            refine AllTill.cons (o := ⟨some 50, _, _, _, _, _⟩) rfl (fun K hK => ?_) AllTill.nil
            refine step_fresh (enc := encV) (E := 23) rfl [.slice a8 4 c8, .slice a20 9 c20, .slice a34 7 c34, .slice a40 3 c40] #[.slice a8 4 c8, .slice a20 9 c20, .slice a34 7 c34, .slice a40 3 c40] rfl (by simp) (by kernel_rfl) ?_
            intro W41 v41 g41 f41 hg41 hx41
            have f8 := f8.below hx41
            have f20 := f20.below hx41
            have f34 := f34.below hx41
            have f40 := f40.below hx41
            have hb := below_call hb hb.size hx41
            obtain ⟨a41, c41, e41, _, _⟩ := f41.shape
            subst e41
            refine hK.out _ _ (trivial) (fun hHeld => ?_)
            clear hK K
            try simp only [Act.put, List.setIfInBounds_toArray, List.set_cons_zero, List.set_cons_succ]
            refine wpTill_take0 (i := 42) (oi := ⟨some 51, _, _, _, _, _⟩) (v := ?_) rfl (by kernel_rfl) (fun _ _ _ h => h) (Or.inl ⟨by rfl, ?_⟩) (fun _ => hHeld) ?_
            rotate_left
            · intro w hSw
              (try dsimp only at hSw)
              go_simp
              try with_reducible rfl
            try simp only [Act.put, List.setIfInBounds_toArray, List.set_cons_zero, List.set_cons_succ]
            refine wpTill_done (by kernel_rfl) ?_ _
            go_wp2_with fail
            go_meet
            case rel => exact ⟨rfl, rfl, nums_ok hb HG.out f8 f20 f34 f40 f41⟩
          refine AllTill.cons (o := ⟨some 49, _, _, _, _, _⟩) rfl (fun K hK => ?_) ?_
          · refine step_fresh (enc := encI) (E := 29) rfl [⟨0, 0, 0, 0, true, false, 0, .slice none 0 0⟩, ⟨1, 0, 0, 0, false, false, 0, .slice none 0 0⟩, ⟨0, 0, 0, 0, false, false, 0, .slice (some ⟨g, 0, none⟩) 1 512⟩] #[.int .i64 0, .int .i64 0, .int .i64 0, .int .i64 0, .bool true, .bool false, .int .u64 0, .slice none 0 0, .int .i64 1, .int .i64 0, .int .i64 0, .int .i64 0, .bool false, .bool false, .int .u64 0, .slice none 0 0, .int .i64 0, .int .i64 0, .int .i64 0, .int .i64 0, .bool false, .bool false, .int .u64 0, .slice (some ⟨g, 0, none⟩) 1 512] rfl (by simp) (by kernel_rfl) ?_
            intro W40 v40 g40 f40 hg40 hx40
            have f20 := f20.below hx40
            have f34 := f34.below hx40
            have hb := below_call hb hb.size hx40
            refine hK.out _ _ (trivial) (fun hHeld => ?_)
            clear hK K
            try simp only [Act.put, List.setIfInBounds_toArray, List.set_cons_zero, List.set_cons_succ]
            refine wpTill_ready (rs := [8]) (by kernel_rfl) (by simp) ?_
            refine AllTill.cons (o := ⟨some 17, _, _, _, _, _⟩) rfl (fun K hK => ?_) AllTill.nil
            refine step_fresh (enc := encI) (E := 29) rfl [⟨0, 0, 0, 0, false, true, 1099511627777, .slice none 0 0⟩, ⟨0, 0, 0, 0, false, true, 2008, .slice (some ⟨g, 0, none⟩) 40 512⟩, ⟨0, 0, 0, 0, false, true, 2009, .slice (some ⟨g, 0, none⟩) 40 512⟩, ⟨1, 0, 0, 9, false, false, 0, .slice none 0 0⟩] #[.int .i64 0, .int .i64 0, .int .i64 0, .int .i64 0, .bool false, .bool true, .int .u64 1099511627777, .slice none 0 0, .int .i64 0, .int .i64 0, .int .i64 0, .int .i64 0, .bool false, .bool true, .int .u64 2008, .slice (some ⟨g, 0, none⟩) 40 512, .int .i64 0, .int .i64 0, .int .i64 0, .int .i64 0, .bool false, .bool true, .int .u64 2009, .slice (some ⟨g, 0, none⟩) 40 512, .int .i64 1, .int .i64 0, .int .i64 0, .int .i64 9, .bool false, .bool false, .int .u64 0, .slice none 0 0] rfl (by simp) (by kernel_rfl) ?_
            intro W8 v8 g8 f8 hg8 hx8
            have f20 := f20.below hx8
            have f34 := f34.below hx8
            have f40 := f40.below hx8
            have hb := below_call hb hb.size hx8
            obtain ⟨a8, c8, e8, _, _⟩ := f8.shape
            subst e8
            obtain ⟨a20, c20, e20, _, _⟩ := f20.shape
            subst e20
            obtain ⟨a34, c34, e34, _, _⟩ := f34.shape
            subst e34
            obtain ⟨a40, c40, e40, _, _⟩ := f40.shape
            subst e40
            refine hK.out _ _ (trivial) (fun hHeld => ?_)
            clear hK K
            try simp only [Act.put, List.setIfInBounds_toArray, List.set_cons_zero, List.set_cons_succ]
            refine wpTill_ready (rs := [41]) (by kernel_rfl) (by simp) ?_
            refine AllTill.cons (o := ⟨some 50, _, _, _, _, _⟩) rfl (fun K hK => ?_) AllTill.nil
            refine step_fresh (enc := encV) (E := 23) rfl [.slice a8 4 c8, .slice a20 9 c20, .slice a34 7 c34, .slice a40 3 c40] #[.slice a8 4 c8, .slice a20 9 c20, .slice a34 7 c34, .slice a40 3 c40] rfl (by simp) (by kernel_rfl) ?_
            intro W41 v41 g41 f41 hg41 hx41
            have f8 := f8.below hx41
            have f20 := f20.below hx41
            have f34 := f34.below hx41
            have f40 := f40.below hx41
            have hb := below_call hb hb.size hx41
            obtain ⟨a41, c41, e41, _, _⟩ := f41.shape
            subst e41
            refine hK.out _ _ (trivial) (fun hHeld => ?_)
            clear hK K
            try simp only [Act.put, List.setIfInBounds_toArray, List.set_cons_zero, List.set_cons_succ]
            refine wpTill_take0 (i := 42) (oi := ⟨some 51, _, _, _, _, _⟩) (v := ?_) rfl (by kernel_rfl) (fun _ _ _ h => h) (Or.inl ⟨by rfl, ?_⟩) (fun _ => hHeld) ?_
            rotate_left
            · intro w hSw
              (try dsimp only at hSw)
              go_simp
              try with_reducible rfl
            try simp only [Act.put, List.setIfInBounds_toArray, List.set_cons_zero, List.set_cons_succ]
            refine wpTill_done (by kernel_rfl) ?_ _
            go_wp2_with fail
            go_meet
            case rel => exact ⟨rfl, rfl, nums_ok hb HG.out f8 f20 f34 f40 f41⟩
          exact AllTill.nil
        refine AllTill.cons (o := ⟨some 49, _, _, _, _, _⟩) rfl (fun K hK => ?_) ?_
        · refine step_fresh (enc := encI) (E := 29) rfl [⟨0, 0, 0, 0, true, false, 0, .slice none 0 0⟩, ⟨1, 0, 0, 0, false, false, 0, .slice none 0 0⟩, ⟨0, 0, 0, 0, false, false, 0, .slice (some ⟨g, 0, none⟩) 1 512⟩] #[.int .i64 0, .int .i64 0, .int .i64 0, .int .i64 0, .bool true, .bool false, .int .u64 0, .slice none 0 0, .int .i64 1, .int .i64 0, .int .i64 0, .int .i64 0, .bool false, .bool false, .int .u64 0, .slice none 0 0, .int .i64 0, .int .i64 0, .int .i64 0, .int .i64 0, .bool false, .bool false, .int .u64 0, .slice (some ⟨g, 0, none⟩) 1 512] rfl (by simp) (by kernel_rfl) ?_
          intro W40 v40 g40 f40 hg40 hx40
          have f20 := f20.below hx40
          have hb := below_call hb hb.size hx40
          refine hK.out _ _ (trivial) (fun hHeld => ?_)
          clear hK K
          try simp only [Act.put, List.setIfInBounds_toArray, List.set_cons_zero, List.set_cons_succ]
          refine wpTill_ready (rs := [8, 34]) (by kernel_rfl) (by simp) ?_
          refine AllTill.cons (o := ⟨some 17, _, _, _, _, _⟩) rfl (fun K hK => ?_) ?_
          · refine step_fresh (enc := encI) (E := 29) rfl [⟨0, 0, 0, 0, false, true, 1099511627777, .slice none 0 0⟩, ⟨0, 0, 0, 0, false, true, 2008, .slice (some ⟨g, 0, none⟩) 40 512⟩, ⟨0, 0, 0, 0, false, true, 2009, .slice (some ⟨g, 0, none⟩) 40 512⟩, ⟨1, 0, 0, 9, false, false, 0, .slice none 0 0⟩] #[.int .i64 0, .int .i64 0, .int .i64 0, .int .i64 0, .bool false, .bool true, .int .u64 1099511627777, .slice none 0 0, .int .i64 0, .int .i64 0, .int .i64 0, .int .i64 0, .bool false, .bool true, .int .u64 2008, .slice (some ⟨g, 0, none⟩) 40 512, .int .i64 0, .int .i64 0, .int .i64 0, .int .i64 0, .bool false, .bool true, .int .u64 2009, .slice (some ⟨g, 0, none⟩) 40 512, .int .i64 1, .int .i64 0, .int .i64 0, .int .i64 9, .bool false, .bool false, .int .u64 0, .slice none 0 0] rfl (by simp) (by kernel_rfl) ?_
            intro W8 v8 g8 f8 hg8 hx8
            have f20 := f20.below hx8
            have f40 := f40.below hx8
            have hb := below_call hb hb.size hx8
            refine hK.out _ _ (trivial) (fun hHeld => ?_)
            clear hK K
            try simp only [Act.put, List.setIfInBounds_toArray, List.set_cons_zero, List.set_cons_succ]
            refine wpTill_ready (rs := [34]) (by kernel_rfl) (by simp) ?_
            refine AllTill.cons (o := ⟨some 43, _, _, _, _, _⟩) rfl (fun K hK => ?_) AllTill.nil
            refine step_fresh (enc := encI) (E := 29) rfl [⟨0, 9, 0, 0, false, false, 0, .slice (some ⟨g, 0, none⟩) 3 512⟩, ⟨0, 5, 0, 0, true, false, 0, .slice none 0 0⟩, ⟨0, 12, 0, 0, true, false, 0, .slice none 0 0⟩, ⟨0, 0, 0, 0, false, false, 0, .slice (some ⟨g, 0, none⟩) 9 512⟩, ⟨1, 0, 0, 5, false, false, 0, .slice none 0 0⟩, ⟨0, 0, 0, 0, true, false, 0, .slice (some ⟨g, 0, none⟩) 12 512⟩, ⟨1, 0, 0, 99, false, false, 0, .slice none 0 0⟩] #[.int .i64 0, .int .i64 9, .int .i64 0, .int .i64 0, .bool false, .bool false, .int .u64 0, .slice (some ⟨g, 0, none⟩) 3 512, .int .i64 0, .int .i64 5, .int .i64 0, .int .i64 0, .bool true, .bool false, .int .u64 0, .slice none 0 0, .int .i64 0, .int .i64 12, .int .i64 0, .int .i64 0, .bool true, .bool false, .int .u64 0, .slice none 0 0, .int .i64 0, .int .i64 0, .int .i64 0, .int .i64 0, .bool false, .bool false, .int .u64 0, .slice (some ⟨g, 0, none⟩) 9 512, .int .i64 1, .int .i64 0, .int .i64 0, .int .i64 5, .bool false, .bool false, .int .u64 0, .slice none 0 0, .int .i64 0, .int .i64 0, .int .i64 0, .int .i64 0, .bool true, .bool false, .int .u64 0, .slice (some ⟨g, 0, none⟩) 12 512, .int .i64 1, .int .i64 0, .int .i64 0, .int .i64 99, .bool false, .bool false, .int .u64 0, .slice none 0 0] rfl (by simp) (by kernel_rfl) ?_
            intro W34 v34 g34 f34 hg34 hx34
            have f20 := f20.below hx34
            have f40 := f40.below hx34
            have f8 := f8.below hx34
            have hb := below_call hb hb.size hx34
            obtain ⟨a8, c8, e8, _, _⟩ := f8.shape
            subst e8
            obtain ⟨a20, c20, e20, _, _⟩ := f20.shape
            subst e20
            obtain ⟨a34, c34, e34, _, _⟩ := f34.shape
            subst e34
            obtain ⟨a40, c40, e40, _, _⟩ := f40.shape
            subst e40
            refine hK.out _ _ (trivial) (fun hHeld => ?_)
            clear hK K
            try simp only [Act.put, List.setIfInBounds_toArray, List.set_cons_zero, List.set_cons_succ]
            refine wpTill_ready (rs := [41]) (by kernel_rfl) (by simp) ?_
            refine AllTill.cons (o := ⟨some 50, _, _, _, _, _⟩) rfl (fun K hK => ?_) AllTill.nil
            refine step_fresh (enc := encV) (E := 23) rfl [.slice a8 4 c8, .slice a20 9 c20, .slice a34 7 c34, .slice a40 3 c40] #[.slice a8 4 c8, .slice a20 9 c20, .slice a34 7 c34, .slice a40 3 c40] rfl (by simp) (by kernel_rfl) ?_
            intro W41 v41 g41 f41 hg41 hx41
            have f8 := f8.below hx41
            have f20 := f20.below hx41
            have f34 := f34.below hx41
            have f40 := f40.below hx41
            have hb := below_call hb hb.size hx41
            obtain ⟨a41, c41, e41, _, _⟩ := f41.shape
            subst e41
            refine hK.out _ _ (trivial) (fun hHeld => ?_)
            clear hK K
            try simp only [Act.put, List.setIfInBounds_toArray, List.set_cons_zero, List.set_cons_succ]
            refine wpTill_take0 (i := 42) (oi := ⟨some 51, _, _, _, _, _⟩) (v := ?_) rfl (by kernel_rfl) (fun _ _ _ h => h) (Or.inl ⟨by rfl, ?_⟩) (fun _ => hHeld) ?_
            rotate_left
            · intro w hSw
              (try dsimp only at hSw)
              go_simp
              try with_reducible rfl
            try simp only [Act.put, List.setIfInBounds_toArray, List.set_cons_zero, List.set_cons_succ]
            refine wpTill_done (by kernel_rfl) ?_ _
            go_wp2_with fail
            go_meet
            case rel => exact ⟨rfl, rfl, nums_ok hb HG.out f8 f20 f34 f40 f41⟩
          refine AllTill.cons (o := ⟨some 43, _, _, _, _, _⟩) rfl (fun K hK => ?_) ?_
          · refine step_fresh (enc := encI) (E := 29) rfl [⟨0, 9, 0, 0, false, false, 0, .slice (some ⟨g, 0, none⟩) 3 512⟩, ⟨0, 5, 0, 0, true, false, 0, .slice none 0 0⟩, ⟨0, 12, 0, 0, true, false, 0, .slice none 0 0⟩, ⟨0, 0, 0, 0, false, false, 0, .slice (some ⟨g, 0, none⟩) 9 512⟩, ⟨1, 0, 0, 5, false, false, 0, .slice none 0 0⟩, ⟨0, 0, 0, 0, true, false, 0, .slice (some ⟨g, 0, none⟩) 12 512⟩, ⟨1, 0, 0, 99, false, false, 0, .slice none 0 0⟩] #[.int .i64 0, .int .i64 9, .int .i64 0, .int .i64 0, .bool false, .bool false, .int .u64 0, .slice (some ⟨g, 0, none⟩) 3 512, .int .i64 0, .int .i64 5, .int .i64 0, .int .i64 0, .bool true, .bool false, .int .u64 0, .slice none 0 0, .int .i64 0, .int .i64 12, .int .i64 0, .int .i64 0, .bool true, .bool false, .int .u64 0, .slice none 0 0, .int .i64 0, .int .i64 0, .int .i64 0, .int .i64 0, .bool false, .bool false, .int .u64 0, .slice (some ⟨g, 0, none⟩) 9 512, .int .i64 1, .int .i64 0, .int .i64 0, .int .i64 5, .bool false, .bool false, .int .u64 0, .slice none 0 0, .int .i64 0, .int .i64 0, .int .i64 0, .int .i64 0, .bool true, .bool false, .int .u64 0, .slice (some ⟨g, 0, none⟩) 12 512, .int .i64 1, .int .i64 0, .int .i64 0, .int .i64 99, .bool false, .bool false, .int .u64 0, .slice none 0 0] rfl (by simp) (by kernel_rfl) ?_
            intro W34 v34 g34 f34 hg34 hx34
            have f20 := f20.below hx34
            have f40 := f40.below hx34
            have hb := below_call hb hb.size hx34
            refine hK.out _ _ (trivial) (fun hHeld => ?_)
            clear hK K
            try simp only [Act.put, List.setIfInBounds_toArray, List.set_cons_zero, List.set_cons_succ]
            refine wpTill_ready (rs := [8]) (by kernel_rfl) (by simp) ?_
            refine AllTill.cons (o := ⟨some 17, _, _, _, _, _⟩) rfl (fun K hK => ?_) AllTill.nil
            refine step_fresh (enc := encI) (E := 29) rfl [⟨0, 0, 0, 0, false, true, 1099511627777, .slice none 0 0⟩, ⟨0, 0, 0, 0, false, true, 2008, .slice (some ⟨g, 0, none⟩) 40 512⟩, ⟨0, 0, 0, 0, false, true, 2009, .slice (some ⟨g, 0, none⟩) 40 512⟩, ⟨1, 0, 0, 9, false, false, 0, .slice none 0 0⟩] #[.int .i64 0, .int .i64 0, .int .i64 0, .int .i64 0, .bool false, .bool true, .int .u64 1099511627777, .slice none 0 0, .int .i64 0, .int .i64 0, .int .i64 0, .int .i64 0, .bool false, .bool true, .int .u64 2008, .slice (some ⟨g, 0, none⟩) 40 512, .int .i64 0, .int .i64 0, .int .i64 0, .int .i64 0, .bool false, .bool true, .int .u64 2009, .slice (some ⟨g, 0, none⟩) 40 512, .int .i64 1, .int .i64 0, .int .i64 0, .int .i64 9, .bool false, .bool false, .int .u64 0, .slice none 0 0] rfl (by simp) (by kernel_rfl) ?_
            intro W8 v8 g8 f8 hg8 hx8
            have f20 := f20.below hx8
            have f40 := f40.below hx8
            have f34 := f34.below hx8
            have hb := below_call hb hb.size hx8
            obtain ⟨a8, c8, e8, _, _⟩ := f8.shape
            subst e8
            obtain ⟨a20, c20, e20, _, _⟩ := f20.shape
            subst e20
            obtain ⟨a34, c34, e34, _, _⟩ := f34.shape
            subst e34
            obtain ⟨a40, c40, e40, _, _⟩ := f40.shape
            subst e40
            refine hK.out _ _ (trivial) (fun hHeld => ?_)
            clear hK K
            try simp only [Act.put, List.setIfInBounds_toArray, List.set_cons_zero, List.set_cons_succ]
            refine wpTill_ready (rs := [41]) (by kernel_rfl) (by simp) ?_
            refine AllTill.cons (o := ⟨some 50, _, _, _, _, _⟩) rfl (fun K hK => ?_) AllTill.nil
            refine step_fresh (enc := encV) (E := 23) rfl [.slice a8 4 c8, .slice a20 9 c20, .slice a34 7 c34, .slice a40 3 c40] #[.slice a8 4 c8, .slice a20 9 c20, .slice a34 7 c34, .slice a40 3 c40] rfl (by simp) (by kernel_rfl) ?_
            intro W41 v41 g41 f41 hg41 hx41
            have f8 := f8.below hx41
            have f20 := f20.below hx41
            have f34 := f34.below hx41
            have f40 := f40.below hx41
            have hb := below_call hb hb.size hx41
            obtain ⟨a41, c41, e41, _, _⟩ := f41.shape
            subst e41
            refine hK.out _ _ (trivial) (fun hHeld => ?_)
            clear hK K
            try simp only [Act.put, List.setIfInBounds_toArray, List.set_cons_zero, List.set_cons_succ]
            refine wpTill_take0 (i := 42) (oi := ⟨some 51, _, _, _, _, _⟩) (v := ?_) rfl (by kernel_rfl) (fun _ _ _ h => h) (Or.inl ⟨by rfl, ?_⟩) (fun _ => hHeld) ?_
            rotate_left
            · intro w hSw
              (try dsimp only at hSw)
              go_simp
              try with_reducible rfl
            try simp only [Act.put, List.setIfInBounds_toArray, List.set_cons_zero, List.set_cons_succ]
            refine wpTill_done (by kernel_rfl) ?_ _
            go_wp2_with fail
            go_meet
            case rel => exact ⟨rfl, rfl, nums_ok hb HG.out f8 f20 f34 f40 f41⟩
          exact AllTill.nil
        exact AllTill.nil
      refine AllTill.cons (o := ⟨some 43, _, _, _, _, _⟩) rfl (fun K hK => ?_) ?_
      · refine step_fresh (enc := encI) (E := 29) rfl [⟨0, 9, 0, 0, false, false, 0, .slice (some ⟨g, 0, none⟩) 3 512⟩, ⟨0, 5, 0, 0, true, false, 0, .slice none 0 0⟩, ⟨0, 12, 0, 0, true, false, 0, .slice none 0 0⟩, ⟨0, 0, 0, 0, false, false, 0, .slice (some ⟨g, 0, none⟩) 9 512⟩, ⟨1, 0, 0, 5, false, false, 0, .slice none 0 0⟩, ⟨0, 0, 0, 0, true, false, 0, .slice (some ⟨g, 0, none⟩) 12 512⟩, ⟨1, 0, 0, 99, false, false, 0, .slice none 0 0⟩] #[.int .i64 0, .int .i64 9, .int .i64 0, .int .i64 0, .bool false, .bool false, .int .u64 0, .slice (some ⟨g, 0, none⟩) 3 512, .int .i64 0, .int .i64 5, .int .i64 0, .int .i64 0, .bool true, .bool false, .int .u64 0, .slice none 0 0, .int .i64 0, .int .i64 12, .int .i64 0, .int .i64 0, .bool true, .bool false, .int .u64 0, .slice none 0 0, .int .i64 0, .int .i64 0, .int .i64 0, .int .i64 0, .bool false, .bool false, .int .u64 0, .slice (some ⟨g, 0, none⟩) 9 512, .int .i64 1, .int .i64 0, .int .i64 0, .int .i64 5, .bool false, .bool false, .int .u64 0, .slice none 0 0, .int .i64 0, .int .i64 0, .int .i64 0, .int .i64 0, .bool true, .bool false, .int .u64 0, .slice (some ⟨g, 0, none⟩) 12 512, .int .i64 1, .int .i64 0, .int .i64 0, .int .i64 99, .bool false, .bool false, .int .u64 0, .slice none 0 0] rfl (by simp) (by kernel_rfl) ?_
        intro W34 v34 g34 f34 hg34 hx34
        have hb := below_call hb hb.size hx34
        refine hK.out _ _ (trivial) (fun hHeld => ?_)
        clear hK K
        try simp only [Act.put, List.setIfInBounds_toArray, List.set_cons_zero, List.set_cons_succ]
        refine wpTill_ready (rs := [8, 20, 40]) (by kernel_rfl) (by simp) ?_
        refine AllTill.cons (o := ⟨some 17, _, _, _, _, _⟩) rfl (fun K hK => ?_) ?_
        · refine step_fresh (enc := encI) (E := 29) rfl [⟨0, 0, 0, 0, false, true, 1099511627777, .slice none 0 0⟩, ⟨0, 0, 0, 0, false, true, 2008, .slice (some ⟨g, 0, none⟩) 40 512⟩, ⟨0, 0, 0, 0, false, true, 2009, .slice (some ⟨g, 0, none⟩) 40 512⟩, ⟨1, 0, 0, 9, false, false, 0, .slice none 0 0⟩] #[.int .i64 0, .int .i64 0, .int .i64 0, .int .i64 0, .bool false, .bool true, .int .u64 1099511627777, .slice none 0 0, .int .i64 0, .int .i64 0, .int .i64 0, .int .i64 0, .bool false, .bool true, .int .u64 2008, .slice (some ⟨g, 0, none⟩) 40 512, .int .i64 0, .int .i64 0, .int .i64 0, .int .i64 0, .bool false, .bool true, .int .u64 2009, .slice (some ⟨g, 0, none⟩) 40 512, .int .i64 1, .int .i64 0, .int .i64 0, .int .i64 9, .bool false, .bool false, .int .u64 0, .slice none 0 0] rfl (by simp) (by kernel_rfl) ?_
          intro W8 v8 g8 f8 hg8 hx8
          have f34 := f34.below hx8
          have hb := below_call hb hb.size hx8
          refine hK.out _ _ (trivial) (fun hHeld => ?_)
          clear hK K
          try simp only [Act.put, List.setIfInBounds_toArray, List.set_cons_zero, List.set_cons_succ]
          refine wpTill_ready (rs := [20, 40]) (by kernel_rfl) (by simp) ?_
          refine AllTill.cons (o := ⟨some 29, _, _, _, _, _⟩) rfl (fun K hK => ?_) ?_
          · refine step_fresh (enc := encI) (E := 29) rfl [⟨0, 0, 0, 0, true, false, 0, .slice (some ⟨g, 0, none⟩) 5 512⟩, ⟨0, 5, 0, 0, false, false, 0, .slice none 0 0⟩, ⟨0, 5, 0, 0, true, false, 0, .slice none 0 0⟩, ⟨0, 6, 0, 0, true, false, 0, .slice none 0 0⟩, ⟨0, 4, 0, 0, true, false, 0, .slice none 0 0⟩, ⟨1, 0, 0, (-1), false, false, 0, .slice none 0 0⟩, ⟨1, 0, 0, 2, false, false, 0, .slice none 0 0⟩, ⟨1, 0, 0, 9, false, false, 0, .slice none 0 0⟩, ⟨1, 0, 0, 0, false, false, 0, .slice none 0 0⟩] #[.int .i64 0, .int .i64 0, .int .i64 0, .int .i64 0, .bool true, .bool false, .int .u64 0, .slice (some ⟨g, 0, none⟩) 5 512, .int .i64 0, .int .i64 5, .int .i64 0, .int .i64 0, .bool false, .bool false, .int .u64 0, .slice none 0 0, .int .i64 0, .int .i64 5, .int .i64 0, .int .i64 0, .bool true, .bool false, .int .u64 0, .slice none 0 0, .int .i64 0, .int .i64 6, .int .i64 0, .int .i64 0, .bool true, .bool false, .int .u64 0, .slice none 0 0, .int .i64 0, .int .i64 4, .int .i64 0, .int .i64 0, .bool true, .bool false, .int .u64 0, .slice none 0 0, .int .i64 1, .int .i64 0, .int .i64 0, .int .i64 (-1), .bool false, .bool false, .int .u64 0, .slice none 0 0, .int .i64 1, .int .i64 0, .int .i64 0, .int .i64 2, .bool false, .bool false, .int .u64 0, .slice none 0 0, .int .i64 1, .int .i64 0, .int .i64 0, .int .i64 9, .bool false, .bool false, .int .u64 0, .slice none 0 0, .int .i64 1, .int .i64 0, .int .i64 0, .int .i64 0, .bool false, .bool false, .int .u64 0, .slice none 0 0] rfl (by simp) (by kernel_rfl) ?_
            intro W20 v20 g20 f20 hg20 hx20
            have f34 := f34.below hx20
            have f8 := f8.below hx20
            have hb := below_call hb hb.size hx20
            refine hK.out _ _ (trivial) (fun hHeld => ?_)
            clear hK K
            try simp only [Act.put, List.setIfInBounds_toArray, List.set_cons_zero, List.set_cons_succ]
            refine wpTill_ready (rs := [40]) (by kernel_rfl) (by simp) ?_
            refine AllTill.cons (o := ⟨some 49, _, _, _, _, _⟩) rfl (fun K hK => ?_) AllTill.nil
            refine step_fresh (enc := encI) (E := 29) rfl [⟨0, 0, 0, 0, true, false, 0, .slice none 0 0⟩, ⟨1, 0, 0, 0, false, false, 0, .slice none 0 0⟩, ⟨0, 0, 0, 0, false, false, 0, .slice (some ⟨g, 0, none⟩) 1 512⟩] #[.int .i64 0, .int .i64 0, .int .i64 0, .int .i64 0, .bool true, .bool false, .int .u64 0, .slice none 0 0, .int .i64 1, .int .i64 0, .int .i64 0, .int .i64 0, .bool false, .bool false, .int .u64 0, .slice none 0 0, .int .i64 0, .int .i64 0, .int .i64 0, .int .i64 0, .bool false, .bool false, .int .u64 0, .slice (some ⟨g, 0, none⟩) 1 512] rfl (by simp) (by kernel_rfl) ?_
            intro W40 v40 g40 f40 hg40 hx40
            have f34 := f34.below hx40
            have f8 := f8.below hx40
            have f20 := f20.below hx40
            have hb := below_call hb hb.size hx40
            obtain ⟨a8, c8, e8, _, _⟩ := f8.shape
            subst e8
            obtain ⟨a20, c20, e20, _, _⟩ := f20.shape
            subst e20
            obtain ⟨a34, c34, e34, _, _⟩ := f34.shape
            subst e34
            obtain ⟨a40, c40, e40, _, _⟩ := f40.shape
            subst e40
            refine hK.out _ _ (trivial) (fun hHeld => ?_)
            clear hK K
            try simp only [Act.put, List.setIfInBounds_toArray, List.set_cons_zero, List.set_cons_succ]
            refine wpTill_ready (rs := [41]) (by kernel_rfl) (by simp) ?_
            refine AllTill.cons (o := ⟨some 50, _, _, _, _, _⟩) rfl (fun K hK => ?_) AllTill.nil
            refine step_fresh (enc := encV) (E := 23) rfl [.slice a8 4 c8, .slice a20 9 c20, .slice a34 7 c34, .slice a40 3 c40] #[.slice a8 4 c8, .slice a20 9 c20, .slice a34 7 c34, .slice a40 3 c40] rfl (by simp) (by kernel_rfl) ?_
            intro W41 v41 g41 f41 hg41 hx41
            have f8 := f8.below hx41
            have f20 := f20.below hx41
            have f34 := f34.below hx41
            have f40 := f40.below hx41
            have hb := below_call hb hb.size hx41
            obtain ⟨a41, c41, e41, _, _⟩ := f41.shape
            subst e41
            refine hK.out _ _ (trivial) (fun hHeld => ?_)
            clear hK K
            try simp only [Act.put, List.setIfInBounds_toArray, List.set_cons_zero, List.set_cons_succ]
            refine wpTill_take0 (i := 42) (oi := ⟨some 51, _, _, _, _, _⟩) (v := ?_) rfl (by kernel_rfl) (fun _ _ _ h => h) (Or.inl ⟨by rfl, ?_⟩) (fun _ => hHeld) ?_
            rotate_left
            · intro w hSw
              (try dsimp only at hSw)
              go_simp
              try with_reducible rfl
            try simp only [Act.put, List.setIfInBounds_toArray, List.set_cons_zero, List.set_cons_succ]
            refine wpTill_done (by kernel_rfl) ?_ _
            go_wp2_with fail
            go_meet
            case rel => exact ⟨rfl, rfl, nums_ok hb HG.out f8 f20 f34 f40 f41⟩
          refine AllTill.cons (o := ⟨some 49, _, _, _, _, _⟩) rfl (fun K hK => ?_) ?_
          · refine step_fresh (enc := encI) (E := 29) rfl [⟨0, 0, 0, 0, true, false, 0, .slice none 0 0⟩, ⟨1, 0, 0, 0, false, false, 0, .slice none 0 0⟩, ⟨0, 0, 0, 0, false, false, 0, .slice (some ⟨g, 0, none⟩) 1 512⟩] #[.int .i64 0, .int .i64 0, .int .i64 0, .int .i64 0, .bool true, .bool false, .int .u64 0, .slice none 0 0, .int .i64 1, .int .i64 0, .int .i64 0, .int .i64 0, .bool false, .bool false, .int .u64 0, .slice none 0 0, .int .i64 0, .int .i64 0, .int .i64 0, .int .i64 0, .bool false, .bool false, .int .u64 0, .slice (some ⟨g, 0, none⟩) 1 512] rfl (by simp) (by kernel_rfl) ?_
            intro W40 v40 g40 f40 hg40 hx40
            have f34 := f34.below hx40
            have f8 := f8.below hx40
            have hb := below_call hb hb.size hx40
            refine hK.out _ _ (trivial) (fun hHeld => ?_)
            clear hK K
            try simp only [Act.put, List.setIfInBounds_toArray, List.set_cons_zero, List.set_cons_succ]
            refine wpTill_ready (rs := [20]) (by kernel_rfl) (by simp) ?_
            refine AllTill.cons (o := ⟨some 29, _, _, _, _, _⟩) rfl (fun K hK => ?_) AllTill.nil
            refine step_fresh (enc := encI) (E := 29) rfl [⟨0, 0, 0, 0, true, false, 0, .slice (some ⟨g, 0, none⟩) 5 512⟩, ⟨0, 5, 0, 0, false, false, 0, .slice none 0 0⟩, ⟨0, 5, 0, 0, true, false, 0, .slice none 0 0⟩, ⟨0, 6, 0, 0, true, false, 0, .slice none 0 0⟩, ⟨0, 4, 0, 0, true, false, 0, .slice none 0 0⟩, ⟨1, 0, 0, (-1), false, false, 0, .slice none 0 0⟩, ⟨1, 0, 0, 2, false, false, 0, .slice none 0 0⟩, ⟨1, 0, 0, 9, false, false, 0, .slice none 0 0⟩, ⟨1, 0, 0, 0, false, false, 0, .slice none 0 0⟩] #[.int .i64 0, .int .i64 0, .int .i64 0, .int .i64 0, .bool true, .bool false, .int .u64 0, .slice (some ⟨g, 0, none⟩) 5 512, .int .i64 0, .int .i64 5, .int .i64 0, .int .i64 0, .bool false, .bool false, .int .u64 0, .slice none 0 0, .int .i64 0, .int .i64 5, .int .i64 0, .int .i64 0, .bool true, .bool false, .int .u64 0, .slice none 0 0, .int .i64 0, .int .i64 6, .int .i64 0, .int .i64 0, .bool true, .bool false, .int .u64 0, .slice none 0 0, .int .i64 0, .int .i64 4, .int .i64 0, .int .i64 0, .bool true, .bool false, .int .u64 0, .slice none 0 0, .int .i64 1, .int .i64 0, .int .i64 0, .int .i64 (-1), .bool false, .bool false, .int .u64 0, .slice none 0 0, .int .i64 1, .int .i64 0, .int .i64 0, .int .i64 2, .bool false, .bool false, .int .u64 0, .slice none 0 0, .int .i64 1, .int .i64 0, .int .i64 0, .int .i64 9, .bool false, .bool false, .int .u64 0, .slice none 0 0, .int .i64 1, .int .i64 0, .int .i64 0, .int .i64 0, .bool false, .bool false, .int .u64 0, .slice none 0 0] rfl (by simp) (by kernel_rfl) ?_
            intro W20 v20 g20 f20 hg20 hx20
            have f34 := f34.below hx20
            have f8 := f8.below hx20
            have f40 := f40.below hx20
            have hb := below_call hb hb.size hx20
            obtain ⟨a8, c8, e8, _, _⟩ := f8.shape
            subst e8
            obtain ⟨a20, c20, e20, _, _⟩ := f20.shape
            subst e20
            obtain ⟨a34, c34, e34, _, _⟩ := f34.shape
            subst e34
            obtain ⟨a40, c40, e40, _, _⟩ := f40.shape
            subst e40
            refine hK.out _ _ (trivial) (fun hHeld => ?_)
            clear hK K
            try simp only [Act.put, List.setIfInBounds_toArray, List.set_cons_zero, List.set_cons_succ]
            refine wpTill_ready (rs := [41]) (by kernel_rfl) (by simp) ?_
            refine AllTill.cons (o := ⟨some 50, _, _, _, _, _⟩) rfl (fun K hK => ?_) AllTill.nil
            refine step_fresh (enc := encV) (E := 23) rfl [.slice a8 4 c8, .slice a20 9 c20, .slice a34 7 c34, .slice a40 3 c40] #[.slice a8 4 c8, .slice a20 9 c20, .slice a34 7 c34, .slice a40 3 c40] rfl (by simp) (by kernel_rfl) ?_
            intro W41 v41 g41 f41 hg41 hx41
            have f8 := f8.below hx41
            have f20 := f20.below hx41
            have f34 := f34.below hx41
            have f40 := f40.below hx41
            have hb := below_call hb hb.size hx41
            obtain ⟨a41, c41, e41, _, _⟩ := f41.shape
            subst e41
            refine hK.out _ _ (trivial) (fun hHeld => ?_)
            clear hK K
            try simp only [Act.put, List.setIfInBounds_toArray, List.set_cons_zero, List.set_cons_succ]
            refine wpTill_take0 (i := 42) (oi := ⟨some 51, _, _, _, _, _⟩) (v := ?_) rfl (by kernel_rfl) (fun _ _ _ h => h) (Or.inl ⟨by rfl, ?_⟩) (fun _ => hHeld) ?_
            rotate_left
            · intro w hSw
              (try dsimp only at hSw)
              go_simp
              try with_reducible rfl
            try simp only [Act.put, List.setIfInBounds_toArray, List.set_cons_zero, List.set_cons_succ]
            refine wpTill_done (by kernel_rfl) ?_ _
            go_wp2_with fail
            go_meet
            case rel => exact ⟨rfl, rfl, nums_ok hb HG.out f8 f20 f34 f40 f41⟩
          exact AllTill.nil
        refine AllTill.cons (o := ⟨some 29, _, _, _, _, _⟩) rfl (fun K hK => ?_) ?_
        · refine step_fresh (enc := encI) (E := 29) rfl [⟨0, 0, 0, 0, true, false, 0, .slice (some ⟨g, 0, none⟩) 5 512⟩, ⟨0, 5, 0, 0, false, false, 0, .slice none 0 0⟩, ⟨0, 5, 0, 0, true, false, 0, .slice none 0 0⟩, ⟨0, 6, 0, 0, true, false, 0, .slice none 0 0⟩, ⟨0, 4, 0, 0, true, false, 0, .slice none 0 0⟩, ⟨1, 0, 0, (-1), false, false, 0, .slice none 0 0⟩, ⟨1, 0, 0, 2, false, false, 0, .slice none 0 0⟩, ⟨1, 0, 0, 9, false, false, 0, .slice none 0 0⟩, ⟨1, 0, 0, 0, false, false, 0, .slice none 0 0⟩] #[.int .i64 0, .int .i64 0, .int .i64 0, .int .i64 0, .bool true, .bool false, .int .u64 0, .slice (some ⟨g, 0, none⟩) 5 512, .int .i64 0, .int .i64 5, .int .i64 0, .int .i64 0, .bool false, .bool false, .int .u64 0, .slice none 0 0, .int .i64 0, .int .i64 5, .int .i64 0, .int .i64 0, .bool true, .bool false, .int .u64 0, .slice none 0 0, .int .i64 0, .int .i64 6, .int .i64 0, .int .i64 0, .bool true, .bool false, .int .u64 0, .slice none 0 0, .int .i64 0, .int .i64 4, .int .i64 0, .int .i64 0, .bool true, .bool false, .int .u64 0, .slice none 0 0, .int .i64 1, .int .i64 0, .int .i64 0, .int .i64 (-1), .bool false, .bool false, .int .u64 0, .slice none 0 0, .int .i64 1, .int .i64 0, .int .i64 0, .int .i64 2, .bool false, .bool false, .int .u64 0, .slice none 0 0, .int .i64 1, .int .i64 0, .int .i64 0, .int .i64 9, .bool false, .bool false, .int .u64 0, .slice none 0 0, .int .i64 1, .int .i64 0, .int .i64 0, .int .i64 0, .bool false, .bool false, .int .u64 0, .slice none 0 0] rfl (by simp) (by kernel_rfl) ?_
          intro W20 v20 g20 f20 hg20 hx20
          have f34 := f34.below hx20
          have hb := below_call hb hb.size hx20
          refine hK.out _ _ (trivial) (fun hHeld => ?_)
          clear hK K
          try simp only [Act.put, List.setIfInBounds_toArray, List.set_cons_zero, List.set_cons_succ]
          refine wpTill_ready (rs := [8, 40]) (by kernel_rfl) (by simp) ?_
          refine AllTill.cons (o := ⟨some 17, _, _, _, _, _⟩) rfl (fun K hK => ?_) ?_
          · refine step_fresh (enc := encI) (E := 29) rfl [⟨0, 0, 0, 0, false, true, 1099511627777, .slice none 0 0⟩, ⟨0, 0, 0, 0, false, true, 2008, .slice (some ⟨g, 0, none⟩) 40 512⟩, ⟨0, 0, 0, 0, false, true, 2009, .slice (some ⟨g, 0, none⟩) 40 512⟩, ⟨1, 0, 0, 9, false, false, 0, .slice none 0 0⟩] #[.int .i64 0, .int .i64 0, .int .i64 0, .int .i64 0, .bool false, .bool true, .int .u64 1099511627777, .slice none 0 0, .int .i64 0, .int .i64 0, .int .i64 0, .int .i64 0, .bool false, .bool true, .int .u64 2008, .slice (some ⟨g, 0, none⟩) 40 512, .int .i64 0, .int .i64 0, .int .i64 0, .int .i64 0, .bool false, .bool true, .int .u64 2009, .slice (some ⟨g, 0, none⟩) 40 512, .int .i64 1, .int .i64 0, .int .i64 0, .int .i64 9, .bool false, .bool false, .int .u64 0, .slice none 0 0] rfl (by simp) (by kernel_rfl) ?_
            intro W8 v8 g8 f8 hg8 hx8
            have f34 := f34.below hx8
            have f20 := f20.below hx8
            have hb := below_call hb hb.size hx8
            refine hK.out _ _ (trivial) (fun hHeld => ?_)
            clear hK K
            try simp only [Act.put, List.setIfInBounds_toArray, List.set_cons_zero, List.set_cons_succ]
            refine wpTill_ready (rs := [40]) (by kernel_rfl) (by simp) ?_
            refine AllTill.cons (o := ⟨some 49, _, _, _, _, _⟩) rfl (fun K hK => ?_) AllTill.nil
            refine step_fresh (enc := encI) (E := 29) rfl [⟨0, 0, 0, 0, true, false, 0, .slice none 0 0⟩, ⟨1, 0, 0, 0, false, false, 0, .slice none 0 0⟩, ⟨0, 0, 0, 0, false, false, 0, .slice (some ⟨g, 0, none⟩) 1 512⟩] #[.int .i64 0, .int .i64 0, .int .i64 0, .int .i64 0, .bool true, .bool false, .int .u64 0, .slice none 0 0, .int .i64 1, .int .i64 0, .int .i64 0, .int .i64 0, .bool false, .bool false, .int .u64 0, .slice none 0 0, .int .i64 0, .int .i64 0, .int .i64 0, .int .i64 0, .bool false, .bool false, .int .u64 0, .slice (some ⟨g, 0, none⟩) 1 512] rfl (by simp) (by kernel_rfl) ?_
            intro W40 v40 g40 f40 hg40 hx40
            have f34 := f34.below hx40
            have f20 := f20.below hx40
            have f8 := f8.below hx40
            have hb := below_call hb hb.size hx40
            obtain ⟨a8, c8, e8, _, _⟩ := f8.shape
            subst e8
            obtain ⟨a20, c20, e20, _, _⟩ := f20.shape
            subst e20
            obtain ⟨a34, c34, e34, _, _⟩ := f34.shape
            subst e34
            obtain ⟨a40, c40, e40, _, _⟩ := f40.shape
            subst e40
            refine hK.out _ _ (trivial) (fun hHeld => ?_)
            clear hK K
            try simp only [Act.put, List.setIfInBounds_toArray, List.set_cons_zero, List.set_cons_succ]
            refine wpTill_ready (rs := [41]) (by kernel_rfl) (by simp) ?_
            refine AllTill.cons (o := ⟨some 50, _, _, _, _, _⟩) rfl (fun K hK => ?_) AllTill.nil
            refine step_fresh (enc := encV) (E := 23) rfl [.slice a8 4 c8, .slice a20 9 c20, .slice a34 7 c34, .slice a40 3 c40] #[.slice a8 4 c8, .slice a20 9 c20, .slice a34 7 c34, .slice a40 3 c40] rfl (by simp) (by kernel_rfl) ?_
            intro W41 v41 g41 f41 hg41 hx41
            have f8 := f8.below hx41
            have f20 := f20.below hx41
            have f34 := f34.below hx41
            have f40 := f40.below hx41
            have hb := below_call hb hb.size hx41
            obtain ⟨a41, c41, e41, _, _⟩ := f41.shape
            subst e41
            refine hK.out _ _ (trivial) (fun hHeld => ?_)
            clear hK K
            try simp only [Act.put, List.setIfInBounds_toArray, List.set_cons_zero, List.set_cons_succ]
            refine wpTill_take0 (i := 42) (oi := ⟨some 51, _, _, _, _, _⟩) (v := ?_) rfl (by kernel_rfl) (fun _ _ _ h => h) (Or.inl ⟨by rfl, ?_⟩) (fun _ => hHeld) ?_
            rotate_left
            · intro w hSw
              (try dsimp only at hSw)
              go_simp
              try with_reducible rfl
            try simp only [Act.put, List.setIfInBounds_toArray, List.set_cons_zero, List.set_cons_succ]
            refine wpTill_done (by kernel_rfl) ?_ _
            go_wp2_with fail
            go_meet
            case rel => exact ⟨rfl, rfl, nums_ok hb HG.out f8 f20 f34 f40 f41⟩
          refine AllTill.cons (o := ⟨some 49, _, _, _, _, _⟩) rfl (fun K hK => ?_) ?_
          · refine step_fresh (enc := encI) (E := 29) rfl [⟨0, 0, 0, 0, true, false, 0, .slice none 0 0⟩, ⟨1, 0, 0, 0, false, false, 0, .slice none 0 0⟩, ⟨0, 0, 0, 0, false, false, 0, .slice (some ⟨g, 0, none⟩) 1 512⟩] #[.int .i64 0, .int .i64 0, .int .i64 0, .int .i64 0, .bool true, .bool false, .int .u64 0, .slice none 0 0, .int .i64 1, .int .i64 0, .int .i64 0, .int .i64 0, .bool false, .bool false, .int .u64 0, .slice none 0 0, .int .i64 0, .int .i64 0, .int .i64 0, .int .i64 0, .bool false, .bool false, .int .u64 0, .slice (some ⟨g, 0, none⟩) 1 512] rfl (by simp) (by kernel_rfl) ?_
            intro W40 v40 g40 f40 hg40 hx40
            have f34 := f34.below hx40
            have f20 := f20.below hx40
            have hb := below_call hb hb.size hx40
            refine hK.out _ _ (trivial) (fun hHeld => ?_)
            clear hK K
            try simp only [Act.put, List.setIfInBounds_toArray, List.set_cons_zero, List.set_cons_succ]
            refine wpTill_ready (rs := [8]) (by kernel_rfl) (by simp) ?_
            refine AllTill.cons (o := ⟨some 17, _, _, _, _, _⟩) rfl (fun K hK => ?_) AllTill.nil
            refine step_fresh (enc := encI) (E := 29) rfl [⟨0, 0, 0, 0, false, true, 1099511627777, .slice none 0 0⟩, ⟨0, 0, 0, 0, false, true, 2008, .slice (some ⟨g, 0, none⟩) 40 512⟩, ⟨0, 0, 0, 0, false, true, 2009, .slice (some ⟨g, 0, none⟩) 40 512⟩, ⟨1, 0, 0, 9, false, false, 0, .slice none 0 0⟩] #[.int .i64 0, .int .i64 0, .int .i64 0, .int .i64 0, .bool false, .bool true, .int .u64 1099511627777, .slice none 0 0, .int .i64 0, .int .i64 0, .int .i64 0, .int .i64 0, .bool false, .bool true, .int .u64 2008, .slice (some ⟨g, 0, none⟩) 40 512, .int .i64 0, .int .i64 0, .int .i64 0, .int .i64 0, .bool false, .bool true, .int .u64 2009, .slice (some ⟨g, 0, none⟩) 40 512, .int .i64 1, .int .i64 0, .int .i64 0, .int .i64 9, .bool false, .bool false, .int .u64 0, .slice none 0 0] rfl (by simp) (by kernel_rfl) ?_
            intro W8 v8 g8 f8 hg8 hx8
            have f34 := f34.below hx8
            have f20 := f20.below hx8
            have f40 := f40.below hx8
            have hb := below_call hb hb.size hx8
            obtain ⟨a8, c8, e8, _, _⟩ := f8.shape
            subst e8
            obtain ⟨a20, c20, e20, _, _⟩ := f20.shape
            subst e20
            obtain ⟨a34, c34, e34, _, _⟩ := f34.shape
            subst e34
            obtain ⟨a40, c40, e40, _, _⟩ := f40.shape
            subst e40
            refine hK.out _ _ (trivial) (fun hHeld => ?_)
            clear hK K
            try simp only [Act.put, List.setIfInBounds_toArray, List.set_cons_zero, List.set_cons_succ]
            refine wpTill_ready (rs := [41]) (by kernel_rfl) (by simp) ?_
            refine AllTill.cons (o := ⟨some 50, _, _, _, _, _⟩) rfl (fun K hK => ?_) AllTill.nil
            refine step_fresh (enc := encV) (E := 23) rfl [.slice a8 4 c8, .slice a20 9 c20, .slice a34 7 c34, .slice a40 3 c40] #[.slice a8 4 c8, .slice a20 9 c20, .slice a34 7 c34, .slice a40 3 c40] rfl (by simp) (by kernel_rfl) ?_
            intro W41 v41 g41 f41 hg41 hx41
            have f8 := f8.below hx41
            have f20 := f20.below hx41
            have f34 := f34.below hx41
            have f40 := f40.below hx41
            have hb := below_call hb hb.size hx41
            obtain ⟨a41, c41, e41, _, _⟩ := f41.shape
            subst e41
            refine hK.out _ _ (trivial) (fun hHeld => ?_)
            clear hK K
            try simp only [Act.put, List.setIfInBounds_toArray, List.set_cons_zero, List.set_cons_succ]
            refine wpTill_take0 (i := 42) (oi := ⟨some 51, _, _, _, _, _⟩) (v := ?_) rfl (by kernel_rfl) (fun _ _ _ h => h) (Or.inl ⟨by rfl, ?_⟩) (fun _ => hHeld) ?_
            rotate_left
            · intro w hSw
              (try dsimp only at hSw)
              go_simp
              try with_reducible rfl
            try simp only [Act.put, List.setIfInBounds_toArray, List.set_cons_zero, List.set_cons_succ]
            refine wpTill_done (by kernel_rfl) ?_ _
            go_wp2_with fail
            go_meet
            case rel => exact ⟨rfl, rfl, nums_ok hb HG.out f8 f20 f34 f40 f41⟩
          exact AllTill.nil
        refine AllTill.cons (o := ⟨some 49, _, _, _, _, _⟩) rfl (fun K hK => ?_) ?_
        · refine step_fresh (enc := encI) (E := 29) rfl [⟨0, 0, 0, 0, true, false, 0, .slice none 0 0⟩, ⟨1, 0, 0, 0, false, false, 0, .slice none 0 0⟩, ⟨0, 0, 0, 0, false, false, 0, .slice (some ⟨g, 0, none⟩) 1 512⟩] #[.int .i64 0, .int .i64 0, .int .i64 0, .int .i64 0, .bool true, .bool false, .int .u64 0, .slice none 0 0, .int .i64 1, .int .i64 0, .int .i64 0, .int .i64 0, .bool false, .bool false, .int .u64 0, .slice none 0 0, .int .i64 0, .int .i64 0, .int .i64 0, .int .i64 0, .bool false, .bool false, .int .u64 0, .slice (some ⟨g, 0, none⟩) 1 512] rfl (by simp) (by kernel_rfl) ?_
          intro W40 v40 g40 f40 hg40 hx40
          have f34 := f34.below hx40
          have hb := below_call hb hb.size hx40
          refine hK.out _ _ (trivial) (fun hHeld => ?_)
          clear hK K
          try simp only [Act.put, List.setIfInBounds_toArray, List.set_cons_zero, List.set_cons_succ]
          refine wpTill_ready (rs := [8, 20]) (by kernel_rfl) (by simp) ?_
          refine AllTill.cons (o := ⟨some 17, _, _, _, _, _⟩) rfl (fun K hK => ?_) ?_
          · refine step_fresh (enc := encI) (E := 29) rfl [⟨0, 0, 0, 0, false, true, 1099511627777, .slice none 0 0⟩, ⟨0, 0, 0, 0, false, true, 2008, .slice (some ⟨g, 0, none⟩) 40 512⟩, ⟨0, 0, 0, 0, false, true, 2009, .slice (some ⟨g, 0, none⟩) 40 512⟩, ⟨1, 0, 0, 9, false, false, 0, .slice none 0 0⟩] #[.int .i64 0, .int .i64 0, .int .i64 0, .int .i64 0, .bool false, .bool true, .int .u64 1099511627777, .slice none 0 0, .int .i64 0, .int .i64 0, .int .i64 0, .int .i64 0, .bool false, .bool true, .int .u64 2008, .slice (some ⟨g, 0, none⟩) 40 512, .int .i64 0, .int .i64 0, .int .i64 0, .int .i64 0, .bool false, .bool true, .int .u64 2009, .slice (some ⟨g, 0, none⟩) 40 512, .int .i64 1, .int .i64 0, .int .i64 0, .int .i64 9, .bool false, .bool false, .int .u64 0, .slice none 0 0] rfl (by simp) (by kernel_rfl) ?_
            intro W8 v8 g8 f8 hg8 hx8
            have f34 := f34.below hx8
            have f40 := f40.below hx8
            have hb := below_call hb hb.size hx8
            refine hK.out _ _ (trivial) (fun hHeld => ?_)
            clear hK K
            try simp only [Act.put, List.setIfInBounds_toArray, List.set_cons_zero, List.set_cons_succ]
            refine wpTill_ready (rs := [20]) (by kernel_rfl) (by simp) ?_
            refine AllTill.cons (o := ⟨some 29, _, _, _, _, _⟩) rfl (fun K hK => ?_) AllTill.nil
            refine step_fresh (enc := encI) (E := 29) rfl [⟨0, 0, 0, 0, true, false, 0, .slice (some ⟨g, 0, none⟩) 5 512⟩, ⟨0, 5, 0, 0, false, false, 0, .slice none 0 0⟩, ⟨0, 5, 0, 0, true, false, 0, .slice none 0 0⟩, ⟨0, 6, 0, 0, true, false, 0, .slice none 0 0⟩, ⟨0, 4, 0, 0, true, false, 0, .slice none 0 0⟩, ⟨1, 0, 0, (-1), false, false, 0, .slice none 0 0⟩, ⟨1, 0, 0, 2, false, false, 0, .slice none 0 0⟩, ⟨1, 0, 0, 9, false, false, 0, .slice none 0 0⟩, ⟨1, 0, 0, 0, false, false, 0, .slice none 0 0⟩] #[.int .i64 0, .int .i64 0, .int .i64 0, .int .i64 0, .bool true, .bool false, .int .u64 0, .slice (some ⟨g, 0, none⟩) 5 512, .int .i64 0, .int .i64 5, .int .i64 0, .int .i64 0, .bool false, .bool false, .int .u64 0, .slice none 0 0, .int .i64 0, .int .i64 5, .int .i64 0, .int .i64 0, .bool true, .bool false, .int .u64 0, .slice none 0 0, .int .i64 0, .int .i64 6, .int .i64 0, .int .i64 0, .bool true, .bool false, .int .u64 0, .slice none 0 0, .int .i64 0, .int .i64 4, .int .i64 0, .int .i64 0, .bool true, .bool false, .int .u64 0, .slice none 0 0, .int .i64 1, .int .i64 0, .int .i64 0, .int .i64 (-1), .bool false, .bool false, .int .u64 0, .slice none 0 0, .int .i64 1, .int .i64 0, .int .i64 0, .int .i64 2, .bool false, .bool false, .int .u64 0, .slice none 0 0, .int .i64 1, .int .i64 0, .int .i64 0, .int .i64 9, .bool false, .bool false, .int .u64 0, .slice none 0 0, .int .i64 1, .int .i64 0, .int .i64 0, .int .i64 0, .bool false, .bool false, .int .u64 0, .slice none 0 0] rfl (by simp) (by kernel_rfl) ?_
            intro W20 v20 g20 f20 hg20 hx20
            have f34 := f34.below hx20
            have f40 := f40.below hx20
            have f8 := f8.below hx20
            have hb := below_call hb hb.size hx20
            obtain ⟨a8, c8, e8, _, _⟩ := f8.shape
            subst e8
            obtain ⟨a20, c20, e20, _, _⟩ := f20.shape
            subst e20
            obtain ⟨a34, c34, e34, _, _⟩ := f34.shape
            subst e34
            obtain ⟨a40, c40, e40, _, _⟩ := f40.shape
            subst e40
            refine hK.out _ _ (trivial) (fun hHeld => ?_)
            clear hK K
            try simp only [Act.put, List.setIfInBounds_toArray, List.set_cons_zero, List.set_cons_succ]
            refine wpTill_ready (rs := [41]) (by kernel_rfl) (by simp) ?_
            refine AllTill.cons (o := ⟨some 50, _, _, _, _, _⟩) rfl (fun K hK => ?_) AllTill.nil
            refine step_fresh (enc := encV) (E := 23) rfl [.slice a8 4 c8, .slice a20 9 c20, .slice a34 7 c34, .slice a40 3 c40] #[.slice a8 4 c8, .slice a20 9 c20, .slice a34 7 c34, .slice a40 3 c40] rfl (by simp) (by kernel_rfl) ?_
            intro W41 v41 g41 f41 hg41 hx41
            have f8 := f8.below hx41
            have f20 := f20.below hx41
            have f34 := f34.below hx41
            have f40 := f40.below hx41
            have hb := below_call hb hb.size hx41
            obtain ⟨a41, c41, e41, _, _⟩ := f41.shape
            subst e41
            refine hK.out _ _ (trivial) (fun hHeld => ?_)
            clear hK K
            try simp only [Act.put, List.setIfInBounds_toArray, List.set_cons_zero, List.set_cons_succ]
            refine wpTill_take0 (i := 42) (oi := ⟨some 51, _, _, _, _, _⟩) (v := ?_) rfl (by kernel_rfl) (fun _ _ _ h => h) (Or.inl ⟨by rfl, ?_⟩) (fun _ => hHeld) ?_
            rotate_left
            · intro w hSw
              (try dsimp only at hSw)
              go_simp
              try with_reducible rfl
            try simp only [Act.put, List.setIfInBounds_toArray, List.set_cons_zero, List.set_cons_succ]
            refine wpTill_done (by kernel_rfl) ?_ _
            go_wp2_with fail
            go_meet
            case rel => exact ⟨rfl, rfl, nums_ok hb HG.out f8 f20 f34 f40 f41⟩
          refine AllTill.cons (o := ⟨some 29, _, _, _, _, _⟩) rfl (fun K hK => ?_) ?_
          · refine step_fresh (enc := encI) (E := 29) rfl [⟨0, 0, 0, 0, true, false, 0, .slice (some ⟨g, 0, none⟩) 5 512⟩, ⟨0, 5, 0, 0, false, false, 0, .slice none 0 0⟩, ⟨0, 5, 0, 0, true, false, 0, .slice none 0 0⟩, ⟨0, 6, 0, 0, true, false, 0, .slice none 0 0⟩, ⟨0, 4, 0, 0, true, false, 0, .slice none 0 0⟩, ⟨1, 0, 0, (-1), false, false, 0, .slice none 0 0⟩, ⟨1, 0, 0, 2, false, false, 0, .slice none 0 0⟩, ⟨1, 0, 0, 9, false, false, 0, .slice none 0 0⟩, ⟨1, 0, 0, 0, false, false, 0, .slice none 0 0⟩] #[.int .i64 0, .int .i64 0, .int .i64 0, .int .i64 0, .bool true, .bool false, .int .u64 0, .slice (some ⟨g, 0, none⟩) 5 512, .int .i64 0, .int .i64 5, .int .i64 0, .int .i64 0, .bool false, .bool false, .int .u64 0, .slice none 0 0, .int .i64 0, .int .i64 5, .int .i64 0, .int .i64 0, .bool true, .bool false, .int .u64 0, .slice none 0 0, .int .i64 0, .int .i64 6, .int .i64 0, .int .i64 0, .bool true, .bool false, .int .u64 0, .slice none 0 0, .int .i64 0, .int .i64 4, .int .i64 0, .int .i64 0, .bool true, .bool false, .int .u64 0, .slice none 0 0, .int .i64 1, .int .i64 0, .int .i64 0, .int .i64 (-1), .bool false, .bool false, .int .u64 0, .slice none 0 0, .int .i64 1, .int .i64 0, .int .i64 0, .int .i64 2, .bool false, .bool false, .int .u64 0, .slice none 0 0, .int .i64 1, .int .i64 0, .int .i64 0, .int .i64 9, .bool false, .bool false, .int .u64 0, .slice none 0 0, .int .i64 1, .int .i64 0, .int .i64 0, .int .i64 0, .bool false, .bool false, .int .u64 0, .slice none 0 0] rfl (by simp) (by kernel_rfl) ?_
            intro W20 v20 g20 f20 hg20 hx20
            have f34 := f34.below hx20
            have f40 := f40.below hx20
            have hb := below_call hb hb.size hx20
            refine hK.out _ _ (trivial) (fun hHeld => ?_)
            clear hK K
            try simp only [Act.put, List.setIfInBounds_toArray, List.set_cons_zero, List.set_cons_succ]
            refine wpTill_ready (rs := [8]) (by kernel_rfl) (by simp) ?_
            refine AllTill.cons (o := ⟨some 17, _, _, _, _, _⟩) rfl (fun K hK => ?_) AllTill.nil
            refine step_fresh (enc := encI) (E := 29) rfl [⟨0, 0, 0, 0, false, true, 1099511627777, .slice none 0 0⟩, ⟨0, 0, 0, 0, false, true, 2008, .slice (some ⟨g, 0, none⟩) 40 512⟩, ⟨0, 0, 0, 0, false, true, 2009, .slice (some ⟨g, 0, none⟩) 40 512⟩, ⟨1, 0, 0, 9, false, false, 0, .slice none 0 0⟩] #[.int .i64 0, .int .i64 0, .int .i64 0, .int .i64 0, .bool false, .bool true, .int .u64 1099511627777, .slice none 0 0, .int .i64 0, .int .i64 0, .int .i64 0, .int .i64 0, .bool false, .bool true, .int .u64 2008, .slice (some ⟨g, 0, none⟩) 40 512, .int .i64 0, .int .i64 0, .int .i64 0, .int .i64 0, .bool false, .bool true, .int .u64 2009, .slice (some ⟨g, 0, none⟩) 40 512, .int .i64 1, .int .i64 0, .int .i64 0, .int .i64 9, .bool false, .bool false, .int .u64 0, .slice none 0 0] rfl (by simp) (by kernel_rfl) ?_
            intro W8 v8 g8 f8 hg8 hx8
            have f34 := f34.below hx8
            have f40 := f40.below hx8
            have f20 := f20.below hx8
            have hb := below_call hb hb.size hx8
            obtain ⟨a8, c8, e8, _, _⟩ := f8.shape
            subst e8
            obtain ⟨a20, c20, e20, _, _⟩ := f20.shape
            subst e20
            obtain ⟨a34, c34, e34, _, _⟩ := f34.shape
            subst e34
            obtain ⟨a40, c40, e40, _, _⟩ := f40.shape
            subst e40
            refine hK.out _ _ (trivial) (fun hHeld => ?_)
            clear hK K
            try simp only [Act.put, List.setIfInBounds_toArray, List.set_cons_zero, List.set_cons_succ]
            refine wpTill_ready (rs := [41]) (by kernel_rfl) (by simp) ?_
            refine AllTill.cons (o := ⟨some 50, _, _, _, _, _⟩) rfl (fun K hK => ?_) AllTill.nil
            refine step_fresh (enc := encV) (E := 23) rfl [.slice a8 4 c8, .slice a20 9 c20, .slice a34 7 c34, .slice a40 3 c40] #[.slice a8 4 c8, .slice a20 9 c20, .slice a34 7 c34, .slice a40 3 c40] rfl (by simp) (by kernel_rfl) ?_
            intro W41 v41 g41 f41 hg41 hx41
            have f8 := f8.below hx41
            have f20 := f20.below hx41
            have f34 := f34.below hx41
            have f40 := f40.below hx41
            have hb := below_call hb hb.size hx41
            obtain ⟨a41, c41, e41, _, _⟩ := f41.shape
            subst e41
            refine hK.out _ _ (trivial) (fun hHeld => ?_)
            clear hK K
            try simp only [Act.put, List.setIfInBounds_toArray, List.set_cons_zero, List.set_cons_succ]
            refine wpTill_take0 (i := 42) (oi := ⟨some 51, _, _, _, _, _⟩) (v := ?_) rfl (by kernel_rfl) (fun _ _ _ h => h) (Or.inl ⟨by rfl, ?_⟩) (fun _ => hHeld) ?_
            rotate_left
            · intro w hSw
              (try dsimp only at hSw)
              go_simp
              try with_reducible rfl
            try simp only [Act.put, List.setIfInBounds_toArray, List.set_cons_zero, List.set_cons_succ]
            refine wpTill_done (by kernel_rfl) ?_ _
            go_wp2_with fail
            go_meet
            case rel => exact ⟨rfl, rfl, nums_ok hb HG.out f8 f20 f34 f40 f41⟩
          exact AllTill.nil
        exact AllTill.nil
      refine AllTill.cons (o := ⟨some 49, _, _, _, _, _⟩) rfl (fun K hK => ?_) ?_
      · refine step_fresh (enc := encI) (E := 29) rfl [⟨0, 0, 0, 0, true, false, 0, .slice none 0 0⟩, ⟨1, 0, 0, 0, false, false, 0, .slice none 0 0⟩, ⟨0, 0, 0, 0, false, false, 0, .slice (some ⟨g, 0, none⟩) 1 512⟩] #[.int .i64 0, .int .i64 0, .int .i64 0, .int .i64 0, .bool true, .bool false, .int .u64 0, .slice none 0 0, .int .i64 1, .int .i64 0, .int .i64 0, .int .i64 0, .bool false, .bool false, .int .u64 0, .slice none 0 0, .int .i64 0, .int .i64 0, .int .i64 0, .int .i64 0, .bool false, .bool false, .int .u64 0, .slice (some ⟨g, 0, none⟩) 1 512] rfl (by simp) (by kernel_rfl) ?_
        intro W40 v40 g40 f40 hg40 hx40
        have hb := below_call hb hb.size hx40
        refine hK.out _ _ (trivial) (fun hHeld => ?_)
        clear hK K
        try simp only [Act.put, List.setIfInBounds_toArray, List.set_cons_zero, List.set_cons_succ]
        refine wpTill_ready (rs := [8, 20, 34]) (by kernel_rfl) (by simp) ?_
        refine AllTill.cons (o := ⟨some 17, _, _, _, _, _⟩) rfl (fun K hK => ?_) ?_
        · refine step_fresh (enc := encI) (E := 29) rfl [⟨0, 0, 0, 0, false, true, 1099511627777, .slice none 0 0⟩, ⟨0, 0, 0, 0, false, true, 2008, .slice (some ⟨g, 0, none⟩) 40 512⟩, ⟨0, 0, 0, 0, false, true, 2009, .slice (some ⟨g, 0, none⟩) 40 512⟩, ⟨1, 0, 0, 9, false, false, 0, .slice none 0 0⟩] #[.int .i64 0, .int .i64 0, .int .i64 0, .int .i64 0, .bool false, .bool true, .int .u64 1099511627777, .slice none 0 0, .int .i64 0, .int .i64 0, .int .i64 0, .int .i64 0, .bool false, .bool true, .int .u64 2008, .slice (some ⟨g, 0, none⟩) 40 512, .int .i64 0, .int .i64 0, .int .i64 0, .int .i64 0, .bool false, .bool true, .int .u64 2009, .slice (some ⟨g, 0, none⟩) 40 512, .int .i64 1, .int .i64 0, .int .i64 0, .int .i64 9, .bool false, .bool false, .int .u64 0, .slice none 0 0] rfl (by simp) (by kernel_rfl) ?_
          intro W8 v8 g8 f8 hg8 hx8
          have f40 := f40.below hx8
          have hb := below_call hb hb.size hx8
          refine hK.out _ _ (trivial) (fun hHeld => ?_)
          clear hK K
          try simp only [Act.put, List.setIfInBounds_toArray, List.set_cons_zero, List.set_cons_succ]
          refine wpTill_ready (rs := [20, 34]) (by kernel_rfl) (by simp) ?_
          refine AllTill.cons (o := ⟨some 29, _, _, _, _, _⟩) rfl (fun K hK => ?_) ?_
          · refine step_fresh (enc := encI) (E := 29) rfl [⟨0, 0, 0, 0, true, false, 0, .slice (some ⟨g, 0, none⟩) 5 512⟩, ⟨0, 5, 0, 0, false, false, 0, .slice none 0 0⟩, ⟨0, 5, 0, 0, true, false, 0, .slice none 0 0⟩, ⟨0, 6, 0, 0, true, false, 0, .slice none 0 0⟩, ⟨0, 4, 0, 0, true, false, 0, .slice none 0 0⟩, ⟨1, 0, 0, (-1), false, false, 0, .slice none 0 0⟩, ⟨1, 0, 0, 2, false, false, 0, .slice none 0 0⟩, ⟨1, 0, 0, 9, false, false, 0, .slice none 0 0⟩, ⟨1, 0, 0, 0, false, false, 0, .slice none 0 0⟩] #[.int .i64 0, .int .i64 0, .int .i64 0, .int .i64 0, .bool true, .bool false, .int .u64 0, .slice (some ⟨g, 0, none⟩) 5 512, .int .i64 0, .int .i64 5, .int .i64 0, .int .i64 0, .bool false, .bool false, .int .u64 0, .slice none 0 0, .int .i64 0, .int .i64 5, .int .i64 0, .int .i64 0, .bool true, .bool false, .int .u64 0, .slice none 0 0, .int .i64 0, .int .i64 6, .int .i64 0, .int .i64 0, .bool true, .bool false, .int .u64 0, .slice none 0 0, .int .i64 0, .int .i64 4, .int .i64 0, .int .i64 0, .bool true, .bool false, .int .u64 0, .slice none 0 0, .int .i64 1, .int .i64 0, .int .i64 0, .int .i64 (-1), .bool false, .bool false, .int .u64 0, .slice none 0 0, .int .i64 1, .int .i64 0, .int .i64 0, .int .i64 2, .bool false, .bool false, .int .u64 0, .slice none 0 0, .int .i64 1, .int .i64 0, .int .i64 0, .int .i64 9, .bool false, .bool false, .int .u64 0, .slice none 0 0, .int .i64 1, .int .i64 0, .int .i64 0, .int .i64 0, .bool false, .bool false, .int .u64 0, .slice none 0 0] rfl (by simp) (by kernel_rfl) ?_
            intro W20 v20 g20 f20 hg20 hx20
            have f40 := f40.below hx20
            have f8 := f8.below hx20
            have hb := below_call hb hb.size hx20
            refine hK.out _ _ (trivial) (fun hHeld => ?_)
            clear hK K
            try simp only [Act.put, List.setIfInBounds_toArray, List.set_cons_zero, List.set_cons_succ]
            refine wpTill_ready (rs := [34]) (by kernel_rfl) (by simp) ?_
            refine AllTill.cons (o := ⟨some 43, _, _, _, _, _⟩) rfl (fun K hK => ?_) AllTill.nil
            refine step_fresh (enc := encI) (E := 29) rfl [⟨0, 9, 0, 0, false, false, 0, .slice (some ⟨g, 0, none⟩) 3 512⟩, ⟨0, 5, 0, 0, true, false, 0, .slice none 0 0⟩, ⟨0, 12, 0, 0, true, false, 0, .slice none 0 0⟩, ⟨0, 0, 0, 0, false, false, 0, .slice (some ⟨g, 0, none⟩) 9 512⟩, ⟨1, 0, 0, 5, false, false, 0, .slice none 0 0⟩, ⟨0, 0, 0, 0, true, false, 0, .slice (some ⟨g, 0, none⟩) 12 512⟩, ⟨1, 0, 0, 99, false, false, 0, .slice none 0 0⟩] #[.int .i64 0, .int .i64 9, .int .i64 0, .int .i64 0, .bool false, .bool false, .int .u64 0, .slice (some ⟨g, 0, none⟩) 3 512, .int .i64 0, .int .i64 5, .int .i64 0, .int .i64 0, .bool true, .bool false, .int .u64 0, .slice none 0 0, .int .i64 0, .int .i64 12, .int .i64 0, .int .i64 0, .bool true, .bool false, .int .u64 0, .slice none 0 0, .int .i64 0, .int .i64 0, .int .i64 0, .int .i64 0, .bool false, .bool false, .int .u64 0, .slice (some ⟨g, 0, none⟩) 9 512, .int .i64 1, .int .i64 0, .int .i64 0, .int .i64 5, .bool false, .bool false, .int .u64 0, .slice none 0 0, .int .i64 0, .int .i64 0, .int .i64 0, .int .i64 0, .bool true, .bool false, .int .u64 0, .slice (some ⟨g, 0, none⟩) 12 512, .int .i64 1, .int .i64 0, .int .i64 0, .int .i64 99, .bool false, .bool false, .int .u64 0, .slice none 0 0] rfl (by simp) (by kernel_rfl) ?_
            intro W34 v34 g34 f34 hg34 hx34
            have f40 := f40.below hx34
            have f8 := f8.below hx34
            have f20 := f20.below hx34
            have hb := below_call hb hb.size hx34
            obtain ⟨a8, c8, e8, _, _⟩ := f8.shape
            subst e8
            obtain ⟨a20, c20, e20, _, _⟩ := f20.shape
            subst e20
            obtain ⟨a34, c34, e34, _, _⟩ := f34.shape
            subst e34
            obtain ⟨a40, c40, e40, _, _⟩ := f40.shape
            subst e40
            refine hK.out _ _ (trivial) (fun hHeld => ?_)
            clear hK K
            try simp only [Act.put, List.setIfInBounds_toArray, List.set_cons_zero, List.set_cons_succ]
            refine wpTill_ready (rs := [41]) (by kernel_rfl) (by simp) ?_
            refine AllTill.cons (o := ⟨some 50, _, _, _, _, _⟩) rfl (fun K hK => ?_) AllTill.nil
            refine step_fresh (enc := encV) (E := 23) rfl [.slice a8 4 c8, .slice a20 9 c20, .slice a34 7 c34, .slice a40 3 c40] #[.slice a8 4 c8, .slice a20 9 c20, .slice a34 7 c34, .slice a40 3 c40] rfl (by simp) (by kernel_rfl) ?_
            intro W41 v41 g41 f41 hg41 hx41
            have f8 := f8.below hx41
            have f20 := f20.below hx41
            have f34 := f34.below hx41
            have f40 := f40.below hx41
            have hb := below_call hb hb.size hx41
            obtain ⟨a41, c41, e41, _, _⟩ := f41.shape
            subst e41
            refine hK.out _ _ (trivial) (fun hHeld => ?_)
            clear hK K
            try simp only [Act.put, List.setIfInBounds_toArray, List.set_cons_zero, List.set_cons_succ]
            refine wpTill_take0 (i := 42) (oi := ⟨some 51, _, _, _, _, _⟩) (v := ?_) rfl (by kernel_rfl) (fun _ _ _ h => h) (Or.inl ⟨by rfl, ?_⟩) (fun _ => hHeld) ?_
            rotate_left
            · intro w hSw
              (try dsimp only at hSw)
              go_simp
              try with_reducible rfl
            try simp only [Act.put, List.setIfInBounds_toArray, List.set_cons_zero, List.set_cons_succ]
            refine wpTill_done (by kernel_rfl) ?_ _
            go_wp2_with fail
            go_meet
            case rel => exact ⟨rfl, rfl, nums_ok hb HG.out f8 f20 f34 f40 f41⟩
          refine AllTill.cons (o := ⟨some 43, _, _, _, _, _⟩) rfl (fun K hK => ?_) ?_
          · refine step_fresh (enc := encI) (E := 29) rfl [⟨0, 9, 0, 0, false, false, 0, .slice (some ⟨g, 0, none⟩) 3 512⟩, ⟨0, 5, 0, 0, true, false, 0, .slice none 0 0⟩, ⟨0, 12, 0, 0, true, false, 0, .slice none 0 0⟩, ⟨0, 0, 0, 0, false, false, 0, .slice (some ⟨g, 0, none⟩) 9 512⟩, ⟨1, 0, 0, 5, false, false, 0, .slice none 0 0⟩, ⟨0, 0, 0, 0, true, false, 0, .slice (some ⟨g, 0, none⟩) 12 512⟩, ⟨1, 0, 0, 99, false, false, 0, .slice none 0 0⟩] #[.int .i64 0, .int .i64 9, .int .i64 0, .int .i64 0, .bool false, .bool false, .int .u64 0, .slice (some ⟨g, 0, none⟩) 3 512, .int .i64 0, .int .i64 5, .int .i64 0, .int .i64 0, .bool true, .bool false, .int .u64 0, .slice none 0 0, .int .i64 0, .int .i64 12, .int .i64 0, .int .i64 0, .bool true, .bool false, .int .u64 0, .slice none 0 0, .int .i64 0, .int .i64 0, .int .i64 0, .int .i64 0, .bool false, .bool false, .int .u64 0, .slice (some ⟨g, 0, none⟩) 9 512, .int .i64 1, .int .i64 0, .int .i64 0, .int .i64 5, .bool false, .bool false, .int .u64 0, .slice none 0 0, .int .i64 0, .int .i64 0, .int .i64 0, .int .i64 0, .bool true, .bool false, .int .u64 0, .slice (some ⟨g, 0, none⟩) 12 512, .int .i64 1, .int .i64 0, .int .i64 0, .int .i64 99, .bool false, .bool false, .int .u64 0, .slice none 0 0] rfl (by simp) (by kernel_rfl) ?_
            intro W34 v34 g34 f34 hg34 hx34
            have f40 := f40.below hx34
            have f8 := f8.below hx34
            have hb := below_call hb hb.size hx34
            refine hK.out _ _ (trivial) (fun hHeld => ?_)
            clear hK K
            try simp only [Act.put, List.setIfInBounds_toArray, List.set_cons_zero, List.set_cons_succ]
            refine wpTill_ready (rs := [20]) (by kernel_rfl) (by simp) ?_
            refine AllTill.cons (o := ⟨some 29, _, _, _, _, _⟩) rfl (fun K hK => ?_) AllTill.nil
            refine step_fresh (enc := encI) (E := 29) rfl [⟨0, 0, 0, 0, true, false, 0, .slice (some ⟨g, 0, none⟩) 5 512⟩, ⟨0, 5, 0, 0, false, false, 0, .slice none 0 0⟩, ⟨0, 5, 0, 0, true, false, 0, .slice none 0 0⟩, ⟨0, 6, 0, 0, true, false, 0, .slice none 0 0⟩, ⟨0, 4, 0, 0, true, false, 0, .slice none 0 0⟩, ⟨1, 0, 0, (-1), false, false, 0, .slice none 0 0⟩, ⟨1, 0, 0, 2, false, false, 0, .slice none 0 0⟩, ⟨1, 0, 0, 9, false, false, 0, .slice none 0 0⟩, ⟨1, 0, 0, 0, false, false, 0, .slice none 0 0⟩] #[.int .i64 0, .int .i64 0, .int .i64 0, .int .i64 0, .bool true, .bool false, .int .u64 0, .slice (some ⟨g, 0, none⟩) 5 512, .int .i64 0, .int .i64 5, .int .i64 0, .int .i64 0, .bool false, .bool false, .int .u64 0, .slice none 0 0, .int .i64 0, .int .i64 5, .int .i64 0, .int .i64 0, .bool true, .bool false, .int .u64 0, .slice none 0 0, .int .i64 0, .int .i64 6, .int .i64 0, .int .i64 0, .bool true, .bool false, .int .u64 0, .slice none 0 0, .int .i64 0, .int .i64 4, .int .i64 0, .int .i64 0, .bool true, .bool false, .int .u64 0, .slice none 0 0, .int .i64 1, .int .i64 0, .int .i64 0, .int .i64 (-1), .bool false, .bool false, .int .u64 0, .slice none 0 0, .int .i64 1, .int .i64 0, .int .i64 0, .int .i64 2, .bool false, .bool false, .int .u64 0, .slice none 0 0, .int .i64 1, .int .i64 0, .int .i64 0, .int .i64 9, .bool false, .bool false, .int .u64 0, .slice none 0 0, .int .i64 1, .int .i64 0, .int .i64 0, .int .i64 0, .bool false, .bool false, .int .u64 0, .slice none 0 0] rfl (by simp) (by kernel_rfl) ?_
            intro W20 v20 g20 f20 hg20 hx20
            have f40 := f40.below hx20
            have f8 := f8.below hx20
            have f34 := f34.below hx20
            have hb := below_call hb hb.size hx20
            obtain ⟨a8, c8, e8, _, _⟩ := f8.shape
            subst e8
            obtain ⟨a20, c20, e20, _, _⟩ := f20.shape
            subst e20
            obtain ⟨a34, c34, e34, _, _⟩ := f34.shape
            subst e34
            obtain ⟨a40, c40, e40, _, _⟩ := f40.shape
            subst e40
            refine hK.out _ _ (trivial) (fun hHeld => ?_)
            clear hK K
            try simp only [Act.put, List.setIfInBounds_toArray, List.set_cons_zero, List.set_cons_succ]
            refine wpTill_ready (rs := [41]) (by kernel_rfl) (by simp) ?_
            refine AllTill.cons (o := ⟨some 50, _, _, _, _, _⟩) rfl (fun K hK => ?_) AllTill.nil
            refine step_fresh (enc := encV) (E := 23) rfl [.slice a8 4 c8, .slice a20 9 c20, .slice a34 7 c34, .slice a40 3 c40] #[.slice a8 4 c8, .slice a20 9 c20, .slice a34 7 c34, .slice a40 3 c40] rfl (by simp) (by kernel_rfl) ?_
            intro W41 v41 g41 f41 hg41 hx41
            have f8 := f8.below hx41
            have f20 := f20.below hx41
            have f34 := f34.below hx41
            have f40 := f40.below hx41
            have hb := below_call hb hb.size hx41
            obtain ⟨a41, c41, e41, _, _⟩ := f41.shape
            subst e41
            refine hK.out _ _ (trivial) (fun hHeld => ?_)
            clear hK K
            try simp only [Act.put, List.setIfInBounds_toArray, List.set_cons_zero, List.set_cons_succ]
            refine wpTill_take0 (i := 42) (oi := ⟨some 51, _, _, _, _, _⟩) (v := ?_) rfl (by kernel_rfl) (fun _ _ _ h => h) (Or.inl ⟨by rfl, ?_⟩) (fun _ => hHeld) ?_
            rotate_left
            · intro w hSw
              (try dsimp only at hSw)
              go_simp
              try with_reducible rfl
            try simp only [Act.put, List.setIfInBounds_toArray, List.set_cons_zero, List.set_cons_succ]
            refine wpTill_done (by kernel_rfl) ?_ _
            go_wp2_with fail
            go_meet
            case rel => exact ⟨rfl, rfl, nums_ok hb HG.out f8 f20 f34 f40 f41⟩
          exact AllTill.nil
        refine AllTill.cons (o := ⟨some 29, _, _, _, _, _⟩) rfl (fun K hK => ?_) ?_
        · refine step_fresh (enc := encI) (E := 29) rfl [⟨0, 0, 0, 0, true, false, 0, .slice (some ⟨g, 0, none⟩) 5 512⟩, ⟨0, 5, 0, 0, false, false, 0, .slice none 0 0⟩, ⟨0, 5, 0, 0, true, false, 0, .slice none 0 0⟩, ⟨0, 6, 0, 0, true, false, 0, .slice none 0 0⟩, ⟨0, 4, 0, 0, true, false, 0, .slice none 0 0⟩, ⟨1, 0, 0, (-1), false, false, 0, .slice none 0 0⟩, ⟨1, 0, 0, 2, false, false, 0, .slice none 0 0⟩, ⟨1, 0, 0, 9, false, false, 0, .slice none 0 0⟩, ⟨1, 0, 0, 0, false, false, 0, .slice none 0 0⟩] #[.int .i64 0, .int .i64 0, .int .i64 0, .int .i64 0, .bool true, .bool false, .int .u64 0, .slice (some ⟨g, 0, none⟩) 5 512, .int .i64 0, .int .i64 5, .int .i64 0, .int .i64 0, .bool false, .bool false, .int .u64 0, .slice none 0 0, .int .i64 0, .int .i64 5, .int .i64 0, .int .i64 0, .bool true, .bool false, .int .u64 0, .slice none 0 0, .int .i64 0, .int .i64 6, .int .i64 0, .int .i64 0, .bool true, .bool false, .int .u64 0, .slice none 0 0, .int .i64 0, .int .i64 4, .int .i64 0, .int .i64 0, .bool true, .bool false, .int .u64 0, .slice none 0 0, .int .i64 1, .int .i64 0, .int .i64 0, .int .i64 (-1), .bool false, .bool false, .int .u64 0, .slice none 0 0, .int .i64 1, .int .i64 0, .int .i64 0, .int .i64 2, .bool false, .bool false, .int .u64 0, .slice none 0 0, .int .i64 1, .int .i64 0, .int .i64 0, .int .i64 9, .bool false, .bool false, .int .u64 0, .slice none 0 0, .int .i64 1, .int .i64 0, .int .i64 0, .int .i64 0, .bool false, .bool false, .int .u64 0, .slice none 0 0] rfl (by simp) (by kernel_rfl) ?_
          intro W20 v20 g20 f20 hg20 hx20
          have f40 := f40.below hx20
          have hb := below_call hb hb.size hx20
          refine hK.out _ _ (trivial) (fun hHeld => ?_)
          clear hK K
          try simp only [Act.put, List.setIfInBounds_toArray, List.set_cons_zero, List.set_cons_succ]
          refine wpTill_ready (rs := [8, 34]) (by kernel_rfl) (by simp) ?_
          refine AllTill.cons (o := ⟨some 17, _, _, _, _, _⟩) rfl (fun K hK => ?_) ?_
          · refine step_fresh (enc := encI) (E := 29) rfl [⟨0, 0, 0, 0, false, true, 1099511627777, .slice none 0 0⟩, ⟨0, 0, 0, 0, false, true, 2008, .slice (some ⟨g, 0, none⟩) 40 512⟩, ⟨0, 0, 0, 0, false, true, 2009, .slice (some ⟨g, 0, none⟩) 40 512⟩, ⟨1, 0, 0, 9, false, false, 0, .slice none 0 0⟩] #[.int .i64 0, .int .i64 0, .int .i64 0, .int .i64 0, .bool false, .bool true, .int .u64 1099511627777, .slice none 0 0, .int .i64 0, .int .i64 0, .int .i64 0, .int .i64 0, .bool false, .bool true, .int .u64 2008, .slice (some ⟨g, 0, none⟩) 40 512, .int .i64 0, .int .i64 0, .int .i64 0, .int .i64 0, .bool false, .bool true, .int .u64 2009, .slice (some ⟨g, 0, none⟩) 40 512, .int .i64 1, .int .i64 0, .int .i64 0, .int .i64 9, .bool false, .bool false, .int .u64 0, .slice none 0 0] rfl (by simp) (by kernel_rfl) ?_
            intro W8 v8 g8 f8 hg8 hx8
            have f40 := f40.below hx8
            have f20 := f20.below hx8
            have hb := below_call hb hb.size hx8
            refine hK.out _ _ (trivial) (fun hHeld => ?_)
            clear hK K
            try simp only [Act.put, List.setIfInBounds_toArray, List.set_cons_zero, List.set_cons_succ]
            refine wpTill_ready (rs := [34]) (by kernel_rfl) (by simp) ?_
            refine AllTill.cons (o := ⟨some 43, _, _, _, _, _⟩) rfl (fun K hK => ?_) AllTill.nil
            refine step_fresh (enc := encI) (E := 29) rfl [⟨0, 9, 0, 0, false, false, 0, .slice (some ⟨g, 0, none⟩) 3 512⟩, ⟨0, 5, 0, 0, true, false, 0, .slice none 0 0⟩, ⟨0, 12, 0, 0, true, false, 0, .slice none 0 0⟩, ⟨0, 0, 0, 0, false, false, 0, .slice (some ⟨g, 0, none⟩) 9 512⟩, ⟨1, 0, 0, 5, false, false, 0, .slice none 0 0⟩, ⟨0, 0, 0, 0, true, false, 0, .slice (some ⟨g, 0, none⟩) 12 512⟩, ⟨1, 0, 0, 99, false, false, 0, .slice none 0 0⟩] #[.int .i64 0, .int .i64 9, .int .i64 0, .int .i64 0, .bool false, .bool false, .int .u64 0, .slice (some ⟨g, 0, none⟩) 3 512, .int .i64 0, .int .i64 5, .int .i64 0, .int .i64 0, .bool true, .bool false, .int .u64 0, .slice none 0 0, .int .i64 0, .int .i64 12, .int .i64 0, .int .i64 0, .bool true, .bool false, .int .u64 0, .slice none 0 0, .int .i64 0, .int .i64 0, .int .i64 0, .int .i64 0, .bool false, .bool false, .int .u64 0, .slice (some ⟨g, 0, none⟩) 9 512, .int .i64 1, .int .i64 0, .int .i64 0, .int .i64 5, .bool false, .bool false, .int .u64 0, .slice none 0 0, .int .i64 0, .int .i64 0, .int .i64 0, .int .i64 0, .bool true, .bool false, .int .u64 0, .slice (some ⟨g, 0, none⟩) 12 512, .int .i64 1, .int .i64 0, .int .i64 0, .int .i64 99, .bool false, .bool false, .int .u64 0, .slice none 0 0] rfl (by simp) (by kernel_rfl) ?_
            intro W34 v34 g34 f34 hg34 hx34
            have f40 := f40.below hx34
            have f20 := f20.below hx34
            have f8 := f8.below hx34
            have hb := below_call hb hb.size hx34
            obtain ⟨a8, c8, e8, _, _⟩ := f8.shape
            subst e8
            obtain ⟨a20, c20, e20, _, _⟩ := f20.shape
            subst e20
            obtain ⟨a34, c34, e34, _, _⟩ := f34.shape
            subst e34
            obtain ⟨a40, c40, e40, _, _⟩ := f40.shape
            subst e40
            refine hK.out _ _ (trivial) (fun hHeld => ?_)
            clear hK K
            try simp only [Act.put, List.setIfInBounds_toArray, List.set_cons_zero, List.set_cons_succ]
            refine wpTill_ready (rs := [41]) (by kernel_rfl) (by simp) ?_
            refine AllTill.cons (o := ⟨some 50, _, _, _, _, _⟩) rfl (fun K hK => ?_) AllTill.nil
            refine step_fresh (enc := encV) (E := 23) rfl [.slice a8 4 c8, .slice a20 9 c20, .slice a34 7 c34, .slice a40 3 c40] #[.slice a8 4 c8, .slice a20 9 c20, .slice a34 7 c34, .slice a40 3 c40] rfl (by simp) (by kernel_rfl) ?_
            intro W41 v41 g41 f41 hg41 hx41
            have f8 := f8.below hx41
            have f20 := f20.below hx41
            have f34 := f34.below hx41
            have f40 := f40.below hx41
            have hb := below_call hb hb.size hx41
            obtain ⟨a41, c41, e41, _, _⟩ := f41.shape
            subst e41
            refine hK.out _ _ (trivial) (fun hHeld => ?_)
            clear hK K
            try simp only [Act.put, List.setIfInBounds_toArray, List.set_cons_zero, List.set_cons_succ]
            refine wpTill_take0 (i := 42) (oi := ⟨some 51, _, _, _, _, _⟩) (v := ?_) rfl (by kernel_rfl) (fun _ _ _ h => h) (Or.inl ⟨by rfl, ?_⟩) (fun _ => hHeld) ?_
            rotate_left
            · intro w hSw
              (try dsimp only at hSw)
              go_simp
              try with_reducible rfl
            try simp only [Act.put, List.setIfInBounds_toArray, List.set_cons_zero, List.set_cons_succ]
            refine wpTill_done (by kernel_rfl) ?_ _
            go_wp2_with fail
            go_meet
            case rel => exact ⟨rfl, rfl, nums_ok hb HG.out f8 f20 f34 f40 f41⟩
          refine AllTill.cons (o := ⟨some 43, _, _, _, _, _⟩) rfl (fun K hK => ?_) ?_
          · refine step_fresh (enc := encI) (E := 29) rfl [⟨0, 9, 0, 0, false, false, 0, .slice (some ⟨g, 0, none⟩) 3 512⟩, ⟨0, 5, 0, 0, true, false, 0, .slice none 0 0⟩, ⟨0, 12, 0, 0, true, false, 0, .slice none 0 0⟩, ⟨0, 0, 0, 0, false, false, 0, .slice (some ⟨g, 0, none⟩) 9 512⟩, ⟨1, 0, 0, 5, false, false, 0, .slice none 0 0⟩, ⟨0, 0, 0, 0, true, false, 0, .slice (some ⟨g, 0, none⟩) 12 512⟩, ⟨1, 0, 0, 99, false, false, 0, .slice none 0 0⟩] #[.int .i64 0, .int .i64 9, .int .i64 0, .int .i64 0, .bool false, .bool false, .int .u64 0, .slice (some ⟨g, 0, none⟩) 3 512, .int .i64 0, .int .i64 5, .int .i64 0, .int .i64 0, .bool true, .bool false, .int .u64 0, .slice none 0 0, .int .i64 0, .int .i64 12, .int .i64 0, .int .i64 0, .bool true, .bool false, .int .u64 0, .slice none 0 0, .int .i64 0, .int .i64 0, .int .i64 0, .int .i64 0, .bool false, .bool false, .int .u64 0, .slice (some ⟨g, 0, none⟩) 9 512, .int .i64 1, .int .i64 0, .int .i64 0, .int .i64 5, .bool false, .bool false, .int .u64 0, .slice none 0 0, .int .i64 0, .int .i64 0, .int .i64 0, .int .i64 0, .bool true, .bool false, .int .u64 0, .slice (some ⟨g, 0, none⟩) 12 512, .int .i64 1, .int .i64 0, .int .i64 0, .int .i64 99, .bool false, .bool false, .int .u64 0, .slice none 0 0] rfl (by simp) (by kernel_rfl) ?_
            intro W34 v34 g34 f34 hg34 hx34
            have f40 := f40.below hx34
            have f20 := f20.below hx34
            have hb := below_call hb hb.size hx34
            refine hK.out _ _ (trivial) (fun hHeld => ?_)
            clear hK K
            try simp only [Act.put, List.setIfInBounds_toArray, List.set_cons_zero, List.set_cons_succ]
            refine wpTill_ready (rs := [8]) (by kernel_rfl) (by simp) ?_
            refine AllTill.cons (o := ⟨some 17, _, _, _, _, _⟩) rfl (fun K hK => ?_) AllTill.nil
            refine step_fresh (enc := encI) (E := 29) rfl [⟨0, 0, 0, 0, false, true, 1099511627777, .slice none 0 0⟩, ⟨0, 0, 0, 0, false, true, 2008, .slice (some ⟨g, 0, none⟩) 40 512⟩, ⟨0, 0, 0, 0, false, true, 2009, .slice (some ⟨g, 0, none⟩) 40 512⟩, ⟨1, 0, 0, 9, false, false, 0, .slice none 0 0⟩] #[.int .i64 0, .int .i64 0, .int .i64 0, .int .i64 0, .bool false, .bool true, .int .u64 1099511627777, .slice none 0 0, .int .i64 0, .int .i64 0, .int .i64 0, .int .i64 0, .bool false, .bool true, .int .u64 2008, .slice (some ⟨g, 0, none⟩) 40 512, .int .i64 0, .int .i64 0, .int .i64 0, .int .i64 0, .bool false, .bool true, .int .u64 2009, .slice (some ⟨g, 0, none⟩) 40 512, .int .i64 1, .int .i64 0, .int .i64 0, .int .i64 9, .bool false, .bool false, .int .u64 0, .slice none 0 0] rfl (by simp) (by kernel_rfl) ?_
            intro W8 v8 g8 f8 hg8 hx8
            have f40 := f40.below hx8
            have f20 := f20.below hx8
            have f34 := f34.below hx8
            have hb := below_call hb hb.size hx8
            obtain ⟨a8, c8, e8, _, _⟩ := f8.shape
            subst e8
            obtain ⟨a20, c20, e20, _, _⟩ := f20.shape
            subst e20
            obtain ⟨a34, c34, e34, _, _⟩ := f34.shape
            subst e34
            obtain ⟨a40, c40, e40, _, _⟩ := f40.shape
            subst e40
            refine hK.out _ _ (trivial) (fun hHeld => ?_)
            clear hK K
            try simp only [Act.put, List.setIfInBounds_toArray, List.set_cons_zero, List.set_cons_succ]
            refine wpTill_ready (rs := [41]) (by kernel_rfl) (by simp) ?_
            refine AllTill.cons (o := ⟨some 50, _, _, _, _, _⟩) rfl (fun K hK => ?_) AllTill.nil
            refine step_fresh (enc := encV) (E := 23) rfl [.slice a8 4 c8, .slice a20 9 c20, .slice a34 7 c34, .slice a40 3 c40] #[.slice a8 4 c8, .slice a20 9 c20, .slice a34 7 c34, .slice a40 3 c40] rfl (by simp) (by kernel_rfl) ?_
            intro W41 v41 g41 f41 hg41 hx41
            have f8 := f8.below hx41
            have f20 := f20.below hx41
            have f34 := f34.below hx41
            have f40 := f40.below hx41
            have hb := below_call hb hb.size hx41
            obtain ⟨a41, c41, e41, _, _⟩ := f41.shape
            subst e41
            refine hK.out _ _ (trivial) (fun hHeld => ?_)
            clear hK K
            try simp only [Act.put, List.setIfInBounds_toArray, List.set_cons_zero, List.set_cons_succ]
            refine wpTill_take0 (i := 42) (oi := ⟨some 51, _, _, _, _, _⟩) (v := ?_) rfl (by kernel_rfl) (fun _ _ _ h => h) (Or.inl ⟨by rfl, ?_⟩) (fun _ => hHeld) ?_
            rotate_left
            · intro w hSw
              (try dsimp only at hSw)
              go_simp
              try with_reducible rfl
            try simp only [Act.put, List.setIfInBounds_toArray, List.set_cons_zero, List.set_cons_succ]
            refine wpTill_done (by kernel_rfl) ?_ _
            go_wp2_with fail
            go_meet
            case rel => exact ⟨rfl, rfl, nums_ok hb HG.out f8 f20 f34 f40 f41⟩
          exact AllTill.nil
        refine AllTill.cons (o := ⟨some 43, _, _, _, _, _⟩) rfl (fun K hK => ?_) ?_
        · refine step_fresh (enc := encI) (E := 29) rfl [⟨0, 9, 0, 0, false, false, 0, .slice (some ⟨g, 0, none⟩) 3 512⟩, ⟨0, 5, 0, 0, true, false, 0, .slice none 0 0⟩, ⟨0, 12, 0, 0, true, false, 0, .slice none 0 0⟩, ⟨0, 0, 0, 0, false, false, 0, .slice (some ⟨g, 0, none⟩) 9 512⟩, ⟨1, 0, 0, 5, false, false, 0, .slice none 0 0⟩, ⟨0, 0, 0, 0, true, false, 0, .slice (some ⟨g, 0, none⟩) 12 512⟩, ⟨1, 0, 0, 99, false, false, 0, .slice none 0 0⟩] #[.int .i64 0, .int .i64 9, .int .i64 0, .int .i64 0, .bool false, .bool false, .int .u64 0, .slice (some ⟨g, 0, none⟩) 3 512, .int .i64 0, .int .i64 5, .int .i64 0, .int .i64 0, .bool true, .bool false, .int .u64 0, .slice none 0 0, .int .i64 0, .int .i64 12, .int .i64 0, .int .i64 0, .bool true, .bool false, .int .u64 0, .slice none 0 0, .int .i64 0, .int .i64 0, .int .i64 0, .int .i64 0, .bool false, .bool false, .int .u64 0, .slice (some ⟨g, 0, none⟩) 9 512, .int .i64 1, .int .i64 0, .int .i64 0, .int .i64 5, .bool false, .bool false, .int .u64 0, .slice none 0 0, .int .i64 0, .int .i64 0, .int .i64 0, .int .i64 0, .bool true, .bool false, .int .u64 0, .slice (some ⟨g, 0, none⟩) 12 512, .int .i64 1, .int .i64 0, .int .i64 0, .int .i64 99, .bool false, .bool false, .int .u64 0, .slice none 0 0] rfl (by simp) (by kernel_rfl) ?_
          intro W34 v34 g34 f34 hg34 hx34
          have f40 := f40.below hx34
          have hb := below_call hb hb.size hx34
          refine hK.out _ _ (trivial) (fun hHeld => ?_)
          clear hK K
          try simp only [Act.put, List.setIfInBounds_toArray, List.set_cons_zero, List.set_cons_succ]
          refine wpTill_ready (rs := [8, 20]) (by kernel_rfl) (by simp) ?_
          refine AllTill.cons (o := ⟨some 17, _, _, _, _, _⟩) rfl (fun K hK => ?_) ?_
          · refine step_fresh (enc := encI) (E := 29) rfl [⟨0, 0, 0, 0, false, true, 1099511627777, .slice none 0 0⟩, ⟨0, 0, 0, 0, false, true, 2008, .slice (some ⟨g, 0, none⟩) 40 512⟩, ⟨0, 0, 0, 0, false, true, 2009, .slice (some ⟨g, 0, none⟩) 40 512⟩, ⟨1, 0, 0, 9, false, false, 0, .slice none 0 0⟩] #[.int .i64 0, .int .i64 0, .int .i64 0, .int .i64 0, .bool false, .bool true, .int .u64 1099511627777, .slice none 0 0, .int .i64 0, .int .i64 0, .int .i64 0, .int .i64 0, .bool false, .bool true, .int .u64 2008, .slice (some ⟨g, 0, none⟩) 40 512, .int .i64 0, .int .i64 0, .int .i64 0, .int .i64 0, .bool false, .bool true, .int .u64 2009, .slice (some ⟨g, 0, none⟩) 40 512, .int .i64 1, .int .i64 0, .int .i64 0, .int .i64 9, .bool false, .bool false, .int .u64 0, .slice none 0 0] rfl (by simp) (by kernel_rfl) ?_
            intro W8 v8 g8 f8 hg8 hx8
            have f40 := f40.below hx8
            have f34 := f34.below hx8
            have hb := below_call hb hb.size hx8
            refine hK.out _ _ (trivial) (fun hHeld => ?_)
            clear hK K
            try simp only [Act.put, List.setIfInBounds_toArray, List.set_cons_zero, List.set_cons_succ]
            refine wpTill_ready (rs := [20]) (by kernel_rfl) (by simp) ?_
            refine AllTill.cons (o := ⟨some 29, _, _, _, _, _⟩) rfl (fun K hK => ?_) AllTill.nil
            refine step_fresh (enc := encI) (E := 29) rfl [⟨0, 0, 0, 0, true, false, 0, .slice (some ⟨g, 0, none⟩) 5 512⟩, ⟨0, 5, 0, 0, false, false, 0, .slice none 0 0⟩, ⟨0, 5, 0, 0, true, false, 0, .slice none 0 0⟩, ⟨0, 6, 0, 0, true, false, 0, .slice none 0 0⟩, ⟨0, 4, 0, 0, true, false, 0, .slice none 0 0⟩, ⟨1, 0, 0, (-1), false, false, 0, .slice none 0 0⟩, ⟨1, 0, 0, 2, false, false, 0, .slice none 0 0⟩, ⟨1, 0, 0, 9, false, false, 0, .slice none 0 0⟩, ⟨1, 0, 0, 0, false, false, 0, .slice none 0 0⟩] #[.int .i64 0, .int .i64 0, .int .i64 0, .int .i64 0, .bool true, .bool false, .int .u64 0, .slice (some ⟨g, 0, none⟩) 5 512, .int .i64 0, .int .i64 5, .int .i64 0, .int .i64 0, .bool false, .bool false, .int .u64 0, .slice none 0 0, .int .i64 0, .int .i64 5, .int .i64 0, .int .i64 0, .bool true, .bool false, .int .u64 0, .slice none 0 0, .int .i64 0, .int .i64 6, .int .i64 0, .int .i64 0, .bool true, .bool false, .int .u64 0, .slice none 0 0, .int .i64 0, .int .i64 4, .int .i64 0, .int .i64 0, .bool true, .bool false, .int .u64 0, .slice none 0 0, .int .i64 1, .int .i64 0, .int .i64 0, .int .i64 (-1), .bool false, .bool false, .int .u64 0, .slice none 0 0, .int .i64 1, .int .i64 0, .int .i64 0, .int .i64 2, .bool false, .bool false, .int .u64 0, .slice none 0 0, .int .i64 1, .int .i64 0, .int .i64 0, .int .i64 9, .bool false, .bool false, .int .u64 0, .slice none 0 0, .int .i64 1, .int .i64 0, .int .i64 0, .int .i64 0, .bool false, .bool false, .int .u64 0, .slice none 0 0] rfl (by simp) (by kernel_rfl) ?_
            intro W20 v20 g20 f20 hg20 hx20
            have f40 := f40.below hx20
            have f34 := f34.below hx20
            have f8 := f8.below hx20
            have hb := below_call hb hb.size hx20
            obtain ⟨a8, c8, e8, _, _⟩ := f8.shape
            subst e8
            obtain ⟨a20, c20, e20, _, _⟩ := f20.shape
            subst e20
            obtain ⟨a34, c34, e34, _, _⟩ := f34.shape
            subst e34
            obtain ⟨a40, c40, e40, _, _⟩ := f40.shape
            subst e40
            refine hK.out _ _ (trivial) (fun hHeld => ?_)
            clear hK K
            try simp only [Act.put, List.setIfInBounds_toArray, List.set_cons_zero, List.set_cons_succ]
            refine wpTill_ready (rs := [41]) (by kernel_rfl) (by simp) ?_
            refine AllTill.cons (o := ⟨some 50, _, _, _, _, _⟩) rfl (fun K hK => ?_) AllTill.nil
            refine step_fresh (enc := encV) (E := 23) rfl [.slice a8 4 c8, .slice a20 9 c20, .slice a34 7 c34, .slice a40 3 c40] #[.slice a8 4 c8, .slice a20 9 c20, .slice a34 7 c34, .slice a40 3 c40] rfl (by simp) (by kernel_rfl) ?_
            intro W41 v41 g41 f41 hg41 hx41
            have f8 := f8.below hx41
            have f20 := f20.below hx41
            have f34 := f34.below hx41
            have f40 := f40.below hx41
            have hb := below_call hb hb.size hx41
            obtain ⟨a41, c41, e41, _, _⟩ := f41.shape
            subst e41
            refine hK.out _ _ (trivial) (fun hHeld => ?_)
            clear hK K
            try simp only [Act.put, List.setIfInBounds_toArray, List.set_cons_zero, List.set_cons_succ]
            refine wpTill_take0 (i := 42) (oi := ⟨some 51, _, _, _, _, _⟩) (v := ?_) rfl (by kernel_rfl) (fun _ _ _ h => h) (Or.inl ⟨by rfl, ?_⟩) (fun _ => hHeld) ?_
            rotate_left
            · intro w hSw
              (try dsimp only at hSw)
              go_simp
              try with_reducible rfl
            try simp only [Act.put, List.setIfInBounds_toArray, List.set_cons_zero, List.set_cons_succ]
            refine wpTill_done (by kernel_rfl) ?_ _
            go_wp2_with fail
            go_meet
            case rel => exact ⟨rfl, rfl, nums_ok hb HG.out f8 f20 f34 f40 f41⟩
          refine AllTill.cons (o := ⟨some 29, _, _, _, _, _⟩) rfl (fun K hK => ?_) ?_
          · refine step_fresh (enc := encI) (E := 29) rfl [⟨0, 0, 0, 0, true, false, 0, .slice (some ⟨g, 0, none⟩) 5 512⟩, ⟨0, 5, 0, 0, false, false, 0, .slice none 0 0⟩, ⟨0, 5, 0, 0, true, false, 0, .slice none 0 0⟩, ⟨0, 6, 0, 0, true, false, 0, .slice none 0 0⟩, ⟨0, 4, 0, 0, true, false, 0, .slice none 0 0⟩, ⟨1, 0, 0, (-1), false, false, 0, .slice none 0 0⟩, ⟨1, 0, 0, 2, false, false, 0, .slice none 0 0⟩, ⟨1, 0, 0, 9, false, false, 0, .slice none 0 0⟩, ⟨1, 0, 0, 0, false, false, 0, .slice none 0 0⟩] #[.int .i64 0, .int .i64 0, .int .i64 0, .int .i64 0, .bool true, .bool false, .int .u64 0, .slice (some ⟨g, 0, none⟩) 5 512, .int .i64 0, .int .i64 5, .int .i64 0, .int .i64 0, .bool false, .bool false, .int .u64 0, .slice none 0 0, .int .i64 0, .int .i64 5, .int .i64 0, .int .i64 0, .bool true, .bool false, .int .u64 0, .slice none 0 0, .int .i64 0, .int .i64 6, .int .i64 0, .int .i64 0, .bool true, .bool false, .int .u64 0, .slice none 0 0, .int .i64 0, .int .i64 4, .int .i64 0, .int .i64 0, .bool true, .bool false, .int .u64 0, .slice none 0 0, .int .i64 1, .int .i64 0, .int .i64 0, .int .i64 (-1), .bool false, .bool false, .int .u64 0, .slice none 0 0, .int .i64 1, .int .i64 0, .int .i64 0, .int .i64 2, .bool false, .bool false, .int .u64 0, .slice none 0 0, .int .i64 1, .int .i64 0, .int .i64 0, .int .i64 9, .bool false, .bool false, .int .u64 0, .slice none 0 0, .int .i64 1, .int .i64 0, .int .i64 0, .int .i64 0, .bool false, .bool false, .int .u64 0, .slice none 0 0] rfl (by simp) (by kernel_rfl) ?_
            intro W20 v20 g20 f20 hg20 hx20
            have f40 := f40.below hx20
            have f34 := f34.below hx20
            have hb := below_call hb hb.size hx20
            refine hK.out _ _ (trivial) (fun hHeld => ?_)
            clear hK K
            try simp only [Act.put, List.setIfInBounds_toArray, List.set_cons_zero, List.set_cons_succ]
            refine wpTill_ready (rs := [8]) (by kernel_rfl) (by simp) ?_
            refine AllTill.cons (o := ⟨some 17, _, _, _, _, _⟩) rfl (fun K hK => ?_) AllTill.nil
            refine step_fresh (enc := encI) (E := 29) rfl [⟨0, 0, 0, 0, false, true, 1099511627777, .slice none 0 0⟩, ⟨0, 0, 0, 0, false, true, 2008, .slice (some ⟨g, 0, none⟩) 40 512⟩, ⟨0, 0, 0, 0, false, true, 2009, .slice (some ⟨g, 0, none⟩) 40 512⟩, ⟨1, 0, 0, 9, false, false, 0, .slice none 0 0⟩] #[.int .i64 0, .int .i64 0, .int .i64 0, .int .i64 0, .bool false, .bool true, .int .u64 1099511627777, .slice none 0 0, .int .i64 0, .int .i64 0, .int .i64 0, .int .i64 0, .bool false, .bool true, .int .u64 2008, .slice (some ⟨g, 0, none⟩) 40 512, .int .i64 0, .int .i64 0, .int .i64 0, .int .i64 0, .bool false, .bool true, .int .u64 2009, .slice (some ⟨g, 0, none⟩) 40 512, .int .i64 1, .int .i64 0, .int .i64 0, .int .i64 9, .bool false, .bool false, .int .u64 0, .slice none 0 0] rfl (by simp) (by kernel_rfl) ?_
            intro W8 v8 g8 f8 hg8 hx8
            have f40 := f40.below hx8
            have f34 := f34.below hx8
            have f20 := f20.below hx8
            have hb := below_call hb hb.size hx8
            obtain ⟨a8, c8, e8, _, _⟩ := f8.shape
            subst e8
            obtain ⟨a20, c20, e20, _, _⟩ := f20.shape
            subst e20
            obtain ⟨a34, c34, e34, _, _⟩ := f34.shape
            subst e34
            obtain ⟨a40, c40, e40, _, _⟩ := f40.shape
            subst e40
            refine hK.out _ _ (trivial) (fun hHeld => ?_)
            clear hK K
            try simp only [Act.put, List.setIfInBounds_toArray, List.set_cons_zero, List.set_cons_succ]
            refine wpTill_ready (rs := [41]) (by kernel_rfl) (by simp) ?_
            refine AllTill.cons (o := ⟨some 50, _, _, _, _, _⟩) rfl (fun K hK => ?_) AllTill.nil
            refine step_fresh (enc := encV) (E := 23) rfl [.slice a8 4 c8, .slice a20 9 c20, .slice a34 7 c34, .slice a40 3 c40] #[.slice a8 4 c8, .slice a20 9 c20, .slice a34 7 c34, .slice a40 3 c40] rfl (by simp) (by kernel_rfl) ?_
            intro W41 v41 g41 f41 hg41 hx41
            have f8 := f8.below hx41
            have f20 := f20.below hx41
            have f34 := f34.below hx41
            have f40 := f40.below hx41
            have hb := below_call hb hb.size hx41
            obtain ⟨a41, c41, e41, _, _⟩ := f41.shape
            subst e41
            refine hK.out _ _ (trivial) (fun hHeld => ?_)
            clear hK K
            try simp only [Act.put, List.setIfInBounds_toArray, List.set_cons_zero, List.set_cons_succ]
            refine wpTill_take0 (i := 42) (oi := ⟨some 51, _, _, _, _, _⟩) (v := ?_) rfl (by kernel_rfl) (fun _ _ _ h => h) (Or.inl ⟨by rfl, ?_⟩) (fun _ => hHeld) ?_
            rotate_left
            · intro w hSw
              (try dsimp only at hSw)
              go_simp
              try with_reducible rfl
            try simp only [Act.put, List.setIfInBounds_toArray, List.set_cons_zero, List.set_cons_succ]
            refine wpTill_done (by kernel_rfl) ?_ _
            go_wp2_with fail
            go_meet
            case rel => exact ⟨rfl, rfl, nums_ok hb HG.out f8 f20 f34 f40 f41⟩
          exact AllTill.nil
        exact AllTill.nil
      exact AllTill.nil
    case rest =>
      obtain ⟨rfl, rfl, hb2, hnums⟩ := hcut
      generalize wc = w1 at *
      obtain ⟨⟨vs, hvs, hlen4, hall⟩, hlng⟩ := hnums
      obtain ⟨ov, cv, e50, hcv, hcv2⟩ := hvs.shape
      rw [hlen4] at e50 hcv
      subst e50
      have HB2 := Lib.hid hb2
      have HVS := Lib.hid hvs
      have HLEN := Lib.hid hlen4
      have HALL := Lib.hid hall
      have HLNG := Lib.hid hlng
      clear hb2 hvs hlen4 hall hlng HG HZL
      have HS0 := Lib.hid (Below.refl w1.heap.size w1)
      go_wp2_with fail
      go_loopw [52] (fun i wr => ∃ k : Nat, i = .int .i64 k ∧ k ≤ 4 ∧ Below w1.heap.size w1 wr) (fun i _ => 4 - (intOf i).toNat)
      case atStart => exact ⟨0, rfl, by omega, HS0.out⟩
      case round =>
        obtain ⟨k, rfl, hk, hbr⟩ := hrel
        have HBR := Lib.hid hbr
        clear hbr HS0
        by_cases hlt : k < 4
        · obtain ⟨u, hu⟩ : ∃ u, vs[k]? = some u := ⟨_, List.getElem?_eq_getElem (by rw [HLEN.out]; exact hlt)⟩
          obtain ⟨c, ofc, rfl, hc, q0⟩ := HVS.out.el (k := 1) (fun _ => rfl) hu
          have q0 := q0 0 (by omega)
          rw [Nat.mul_one, Nat.add_zero] at q0
          obtain ⟨L, hL, hL9, hLok⟩ := HALL.out u (List.mem_of_getElem? hu)
          obtain ⟨ol, cl, rfl, hcl1, hcl2⟩ := hL.shape
          have q0 := cell_keep HBR.out hc q0
          have HVL := Lib.hid hL
          have HLO := Lib.hid hLok
          clear hu hL hLok
          generalize hn : L.length = len at *
          have HN := Lib.hid hn
          clear hn
          go_wp2_with fail
          refine (bnew_any _).mono ?_
          rintro e w2 ⟨b, fp1, rfl, hi, hn, hb⟩
          obtain ⟨fm1, hp⟩ := pair_zero (W := w1) hi (fun k hk => Nat.le_trans HBR.out.size (hn k hk)) (below_call HBR.out HBR.out.size hb)
          have H0 := Lib.hid hp
          clear hi hn hb hp
          generalize hm : w2.heap.size = m at *
          have H1 := Lib.hid (show ∃ s fp fm, Pair w1 (w2.alloc (.cells #[.int .u64 0, .int .u64 0, .int .u64 0, .bool false, .slice none 0 0, .slice none 0 0] 41)) b m s fp fm from ⟨_, _, _, H0.out⟩)
          clear H0 HBR q0
          go_wp2_with fail
          go_loopw [6] (fun i wr => ∃ k : Nat, i = .int .i64 k ∧ k ≤ len ∧ ∃ s fp fm, Pair w1 wr b m s fp fm) (fun i _ => len - (intOf i).toNat)
          case atStart => exact ⟨0, rfl, by omega, H1.out⟩
          case round =>
            obtain ⟨j, rfl, hj, s, fp, fm, hst⟩ := hrel
            have HST := Lib.hid hst
            clear hst H1
            by_cases hltj : j < len
            · obtain ⟨a, hak⟩ : ∃ a, L[j]? = some a := ⟨_, List.getElem?_eq_getElem (by rw [HN.out]; exact hltj)⟩
              obtain ⟨c2, of2, rfl, hc2, q0, q1, q2, q3, q4, q5, q6, q7⟩ := AkI.cells8 HVL.out hak
              have hok := Lib.hid (HLO.out a (List.mem_of_getElem? hak))
              obtain ⟨kd, off, size, most, fin, raw, at_, vd⟩ := a
              simp only at q0 q1 q2 q3 q4 q5 q6 q7
              obtain ⟨d, hd, hby⟩ := hok.out.data
              have HD := Lib.hid (HST.out.view hd)
              have HBY := Lib.hid hby
              obtain ⟨od, capd, e7, _, _⟩ := hd.shape
              simp only at e7
              have hbl := HST.out.below
              have q0 := cell_keep hbl hc2 q0
              have q1 := cell_keep hbl hc2 q1
              have q2 := cell_keep hbl hc2 q2
              have q3 := cell_keep hbl hc2 q3
              have q4 := cell_keep hbl hc2 q4
              have q5 := cell_keep hbl hc2 q5
              have q6 := cell_keep hbl hc2 q6
              have q7 := cell_keep hbl hc2 q7
              clear hbl hak hd hby
              subst e7
              generalize d.length = dl at *
              go_wp2_with fail
              refine (do_any b m s fp fm ⟨kd, off, size, most, fin, raw, at_, .slice od dl capd⟩ d _ (by exact HST.out.two) ⟨hok.out.kd, hok.out.off, hok.out.most, hok.out.at_⟩ (by exact HD.out) HBY.out).mono ?_
              rintro e w3 ⟨rfl, s', fp', fm', ht, hw⟩
              have H3 := Lib.hid (HST.out.went ht hw)
              clear ht hw HST q0 q1 q2 q3 q4 q5 q6 q7
              go_wp2_with fail
              go_roundw
              case rel => exact ⟨j + 1, by go_num, by omega, _, _, _, H3.out⟩
              case measure => simp [intOf]; omega
            · have HBE := Lib.hid HST.out.below
              go_wp2_with fail
              go_roundw
              case rel => exact ⟨k + 1, by go_num, by omega, HBE.out⟩
              case measure => simp [intOf]; omega
        · have hY' : ∀ w : World, (Instr.makeSlice 22 (.int .i64 513) (.int .i64 513)).run Try.prog w = .ok (.slice (some ⟨w.heap.size, 0, none⟩) 513 513) (w.alloc (.cells Y 5)) := HY.out
          go_wp2_with fail
          refine (bnew_any _).mono ?_
          rintro e w2 ⟨b, fp1, rfl, hi, hn, hb⟩
          have HM := Lib.hid (show Mine w1 w2 b IB.zero fp1 from ⟨hi, fun k hk => Nat.le_trans HBR.out.size (hn k hk), below_call HBR.out HBR.out.size hb⟩)
          clear hi hn hb HBR
          go_wp2_with fail
          have HV := Lib.hid (show VwA encB fp1 (w2.alloc (.cells Y 5)) (.slice (some ⟨w2.heap.size, 0, none⟩) 513 513) (List.replicate 513 0) from by
            refine ⟨_, 513, by rw [List.length_replicate], by simp, by simp, .inr ⟨w2.heap.size, 0, rfl, by simp, HM.out.fresh, fun j u hj => ?_⟩⟩
            rw [Nat.zero_add, cell_at (alloc_at _ _)]
            rw [← HYL.out] at hj
            simpa using hj)
          have HB0' := Lib.hid (show ∀ n, Bys (List.replicate n 0) from fun n x hx => by rw [List.mem_replicate] at hx; omega)
          have hl3 : (List.replicate 513 0).length = 513 := List.length_replicate
          have hl2 : (List.replicate 512 0).length = 512 := List.length_replicate
          refine (badd_e b IB.zero IB.zero fp1 0 _ (List.replicate 513 0) false _ (by exact (HM.out.alloc _).buf) (by exact HV.out) (HB0'.out _) (by omega) (r := 1) (by rw [hl3]; decide) (by unfold IB.add; rw [hl3, if_neg (by decide)])).mono ?_
          rintro e w3 ⟨rfl, fp3, hi, hw⟩
          have HM3 := Lib.hid ((HM.out.alloc _).went hi hw)
          clear hi hw HM HV
          go_wp2_with fail
          refine (badd_e b IB.zero _ fp3 0 _ (List.replicate 512 0) false _ (by exact HM3.out.buf) (by exact HM3.out.view HLNG.out) (HB0'.out _) (by omega) (r := 0) (by rw [hl2]; decide) rfl).mono ?_
          rintro e w4 ⟨rfl, fp4, hi, hw⟩
          have HM4 := Lib.hid (HM3.out.went hi hw)
          have hr := rdy_row 512 rfl
          clear hi hw HM3 hl2 hl3
          go_wp2_with fail
          refine (bRdy_any b _ fp4 _ (by exact HM4.out.buf)).mono ?_
          rw [hr]
          rintro e w5 ⟨rfl, hb5⟩
          go_wp2_with fail
          refine (known_any _).mono ?_
          rintro e w6 ⟨rfl, hb6⟩
          go_wp2_with fail
          go_ret
          have h5 := (HM4.out.later hb5).later hb6
          exact ⟨rfl, below_call HB0.out.drew HB0.out.drew.size (below_call HB2.out HB2.out.size h5.below)⟩
end Go.Proofs.Ytojklmbbepgciaa
