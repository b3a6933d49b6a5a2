/- DERIVED. narthexlaw18's params (printed by mkstpar.py). -/
import Derived.Laws.ResultCell
import Derived.Laws.Rows
import Derived.Test.YtfdgamlakfkekaaQR3
import Derived.Test.YtfdgamlakfkekaaQR19
set_option linter.all false
namespace Go.Proofs.Ytfdgamlakfkekaa
open Go.RowKit

def pmN (n : Nat) : Pm := ⟨0, [5, 60, 300, 100000].getD (n % 4) 0, [3, 40, 200, 9999].getD (n / 4 % 4) 0, [0, 1, 3, 99].getD (n / 16 % 4) 0, 0, 0, 0, 0, 0, 0, 0, 0⟩
theorem and3 : ∀ n : Fin 64, bits .and .i64 (n.val : Int) 3 = ((n.val % 4 : Nat) : Int) := by decide
theorem results_cell1 {fn : Func} {p : Tmp} {ty : TypeId} (h : fn.results = #[.cell p ty]) (tmps : Array Value) (P : Program) (w : World) :
    (results fn tmps).run P w = ((asAddr (tmps.getD p undef)).run P w).andThen fun a w1 => (loadVar ty a).run P w1 := by
  simp only [results, h]
  simp [Sem.run_bind, Result.andThen]
theorem setRow_below1 {B : Nat} {a w : World} {g : Nat} {cs : Array Value} (h : Below B a w) (hg : B ≤ g) : Below B a (w.setRow g cs) :=
  h.trans ⟨rfl, rfl, rfl, by simp, fun k hk => setRow_other w g k cs (by omega)⟩
theorem getD_at {l : List Nat} {i : Nat} (h : i < l.length) : l[i]? = some (l.getD i 0) := by
  rw [List.getD_eq_getElem?_getD, List.getElem?_eq_getElem h]
  rfl
set_option maxRecDepth 100000 in
set_option maxHeartbeats 2000000 in
theorem params_any (n : Nat) (hn : n < 64) (w : World) :
    Calls Try.prog 8 #[.int .i64 n] w fun e w' => e = .returned (.agg (encPm (pmN n)).toArray) ∧ Below w.heap.size w w' := by
  obtain ⟨m2, hm2⟩ : ∃ m, n / 4 = m := ⟨_, rfl⟩
  obtain ⟨m3, hm3⟩ : ∃ m, n / 16 = m := ⟨_, rfl⟩
  have s2 : (n : Int) / 4 = (m2 : Int) := by omega
  have s3 : (n : Int) / 16 = (m3 : Int) := by omega
  have b1 := and3 ⟨n, hn⟩
  have b2 := and3 ⟨m2, by omega⟩
  have b3 := and3 ⟨m3, by omega⟩
  simp only at b1 b2 b3
  obtain ⟨i1, hi1⟩ : ∃ i, n % 4 = i := ⟨_, rfl⟩
  obtain ⟨i2, hi2⟩ : ∃ i, m2 % 4 = i := ⟨_, rfl⟩
  obtain ⟨i3, hi3⟩ : ∃ i, m3 % 4 = i := ⟨_, rfl⟩
  rw [hi1] at b1
  rw [hi2, ← s2] at b2
  rw [hi3, ← s3] at b3
  clear s2 s3
  have l1 : i1 < 4 := by omega
  have l2 : i2 < 4 := by omega
  have l3 : i3 < 4 := by omega
  have k1 : (i1 : Int) < 4 := by omega
  have k2 : (i2 : Int) < 4 := by omega
  have k3 : (i3 : Int) < 4 := by omega
  obtain ⟨a1, ha1⟩ : ∃ a, [5, 60, 300, 100000].getD i1 0 = a := ⟨_, rfl⟩
  obtain ⟨a2, ha2⟩ : ∃ a, [3, 40, 200, 9999].getD i2 0 = a := ⟨_, rfl⟩
  obtain ⟨a3, ha3⟩ : ∃ a, [0, 1, 3, 99].getD i3 0 = a := ⟨_, rfl⟩
  have hpm : pmN n = ⟨0, a1, a2, a3, 0, 0, 0, 0, 0, 0, 0, 0⟩ := by unfold pmN; rw [hm2, hm3, hi1, hi2, hi3, ha1, ha2, ha3]
  rw [hpm]
  replace ha1 : [5, 60, 300, 100000][i1]? = some a1 := by rw [getD_at (by exact l1), ha1]
  replace ha2 : [3, 40, 200, 9999][i2]? = some a2 := by rw [getD_at (by exact l2), ha2]
  replace ha3 : [0, 1, 3, 99][i3]? = some a3 := by rw [getD_at (by exact l3), ha3]
  have HBA := Lib.hid (((Below.refl w.heap.size w).alloc (Nat.le_refl _) (.cells #[.int .u64 0, .int .u64 0, .int .u64 0, .int .u64 0, .int .u8 0, .int .u8 0, .int .u8 0, .int .u8 0, .int .u8 0, .int .u8 0, .int .u8 0, .int .u8 0] 29)).drew)
  have z := show (w.alloc (.cells #[.int .u64 0, .int .u64 0, .int .u64 0, .int .u64 0, .int .u8 0, .int .u8 0, .int .u8 0, .int .u8 0, .int .u8 0, .int .u8 0, .int .u8 0, .int .u8 0] 29)).drew.heap[w.heap.size]? = some (.cells #[.int .u64 0, .int .u64 0, .int .u64 0, .int .u64 0, .int .u8 0, .int .u8 0, .int .u8 0, .int .u8 0, .int .u8 0, .int .u8 0, .int .u8 0, .int .u8 0] 29 (0, 0)) from alloc_at _ _
  clear hpm hm2 hm3 hi1 hi2 hi3
  go_enter Try.func8, Try.ntmps8
  go_upto_region 1 with fail
  go_cut [2] (fun v wx => ∃ y, v = .pointer (some ⟨y, 0, none⟩) ∧ w.heap.size ≤ y ∧ wx.heap[y]? = some (.cells (encPm ⟨0, a1, a2, a3, 0, 0, 0, 0, 0, 0, 0, 0⟩).toArray 29 (0, 0)) ∧ Below w.heap.size w wx)
  case first =>
    refine wp_region_till (S := fun _ => True) [18] (by kernel_rfl) (trivial) (fun hHeld => ?_)
    refine wpTill_take0 (i := 1) (oi := ⟨some 4, _, _, _, _, _⟩) (v := ?_) rfl (by kernel_rfl) (fun _ _ _ h => h) (Or.inl ⟨by rfl, ?_⟩) (fun _ => hHeld) ?_
    rotate_left
    · intro w hSw
      (try dsimp only at hSw)
      go_simp
      try with_reducible rfl
    try simp only [Act.put, List.setIfInBounds_toArray, List.set_cons_zero, List.set_cons_succ]
    refine wpTill_take0 (i := 2) (oi := ⟨some 5, _, _, _, _, _⟩) (v := ?_) rfl (by kernel_rfl) (fun _ _ _ h => h) (Or.inl ⟨by rfl, ?_⟩) (fun _ => hHeld) ?_
    rotate_left
    · intro w hSw
      (try dsimp only at hSw)
      go_simp
      try with_reducible rfl
    try simp only [Act.put, List.setIfInBounds_toArray, List.set_cons_zero, List.set_cons_succ]
    refine wpTill_take0 (i := 6) (oi := ⟨some 9, _, _, _, _, _⟩) (v := ?_) rfl (by kernel_rfl) (fun _ _ _ h => h) (Or.inl ⟨by rfl, ?_⟩) (fun _ => hHeld) ?_
    rotate_left
    · intro w hSw
      (try dsimp only at hSw)
      go_simp
      try with_reducible rfl
    try simp only [Act.put, List.setIfInBounds_toArray, List.set_cons_zero, List.set_cons_succ]
    refine wpTill_take0 (i := 7) (oi := ⟨some 10, _, _, _, _, _⟩) (v := ?_) rfl (by kernel_rfl) (fun _ _ _ h => h) (Or.inl ⟨by rfl, ?_⟩) (fun _ => hHeld) ?_
    rotate_left
    · intro w hSw
      (try dsimp only at hSw)
      go_simp
      try with_reducible rfl
    try simp only [Act.put, List.setIfInBounds_toArray, List.set_cons_zero, List.set_cons_succ]
    refine wpTill_take0 (i := 8) (oi := ⟨some 11, _, _, _, _, _⟩) (v := ?_) rfl (by kernel_rfl) (fun _ _ _ h => h) (Or.inl ⟨by rfl, ?_⟩) (fun _ => hHeld) ?_
    rotate_left
    · intro w hSw
      (try dsimp only at hSw)
      go_simp
      try with_reducible rfl
    try simp only [Act.put, List.setIfInBounds_toArray, List.set_cons_zero, List.set_cons_succ]
    refine wpTill_take0 (i := 12) (oi := ⟨some 15, _, _, _, _, _⟩) (v := ?_) rfl (by kernel_rfl) (fun _ _ _ h => h) (Or.inl ⟨by rfl, ?_⟩) (fun _ => hHeld) ?_
    rotate_left
    · intro w hSw
      (try dsimp only at hSw)
      go_simp
      try with_reducible rfl
    try simp only [Act.put, List.setIfInBounds_toArray, List.set_cons_zero, List.set_cons_succ]
    refine wpTill_take0 (i := 13) (oi := ⟨some 16, _, _, _, _, _⟩) (v := ?_) rfl (by kernel_rfl) (fun _ _ _ h => h) (Or.inl ⟨by rfl, ?_⟩) (fun _ => hHeld) ?_
    rotate_left
    · intro w hSw
      (try dsimp only at hSw)
      go_simp
      try with_reducible rfl
    try simp only [Act.put, List.setIfInBounds_toArray, List.set_cons_zero, List.set_cons_succ]
    refine wpTill_take0 (i := 14) (oi := ⟨some 17, _, _, _, _, _⟩) (v := ?_) rfl (by kernel_rfl) (fun _ _ _ h => h) (Or.inl ⟨by rfl, ?_⟩) (fun _ => hHeld) ?_
    rotate_left
    · intro w hSw
      (try dsimp only at hSw)
      go_simp
      try with_reducible rfl
    try simp only [Act.put, List.setIfInBounds_toArray, List.set_cons_zero, List.set_cons_succ]
    refine wpTill_ready (rs := [0, 5, 11]) (by kernel_rfl) (by simp) ?_
    refine AllTill.cons (o := ⟨some 3, _, _, _, _, _⟩) rfl (fun K hK => ?_) ?_
    · refine step_fresh (enc := encU) (E := 25) rfl [5, 60, 300, 100000] #[.int .u64 5, .int .u64 60, .int .u64 300, .int .u64 100000] rfl (by simp) (by kernel_rfl) ?_
      intro W0 v0 g0 f0 hg0 hx0
      obtain ⟨o0, c0, rfl, _, _⟩ := f0.shape
      obtain ⟨q0, r0, rfl, l0, e0, _⟩ := f0.el1 (f := fun n : Nat => Value.int .u64 n) (fun _ => rfl) ha1
      obtain rfl := Option.some.inj r0
      clear r0 f0 hg0
      have HB0 := Lib.hid (below_call HBA.out HBA.out.size hx0)
      have z0 := below_keeps hx0 z (heap_lt z)
      refine hK.out _ _ (by exact trivial) (fun hHeld => ?_)
      clear hK K
      try simp only [Act.put, List.setIfInBounds_toArray, List.set_cons_zero, List.set_cons_succ]
      refine wpTill_more (S' := fun w' => w'.cell? ⟨g0, i1, none⟩ = some (.int .u64 a1)) (fun _ h => trivial) ?_
      replace hHeld : W0.cell? ⟨g0, i1, none⟩ = some (.int .u64 a1) := e0
      refine wpTill_take0 (i := 3) (oi := ⟨some 6, _, _, _, _, _⟩) (v := ?_) rfl (by kernel_rfl) (fun _ _ _ h => h) (Or.inl ⟨by rfl, ?_⟩) (fun _ => hHeld) ?_
      rotate_left
      · intro w hSw
        (try dsimp only at hSw)
        go_simp
        try with_reducible rfl
      try simp only [Act.put, List.setIfInBounds_toArray, List.set_cons_zero, List.set_cons_succ]
      refine wpTill_take (i := 4) (oi := ⟨some 7, _, _, _, _, _⟩) (v := ?_) rfl (by kernel_rfl) (fun _ _ _ h => h) (Or.inl ⟨by rfl, ?_⟩) (by exact hHeld) ?_
      rotate_left
      · intro w hSw
        (try dsimp only at hSw)
        go_simp
        try with_reducible rfl
      try simp only [Act.put, List.setIfInBounds_toArray, List.set_cons_zero, List.set_cons_succ]
      refine wpTill_ready (rs := [5, 11]) (by kernel_rfl) (by simp) ?_
      refine AllTill.cons (o := ⟨some 8, _, _, _, _, _⟩) rfl (fun K hK => ?_) ?_
      · refine step_fresh (enc := encU) (E := 25) rfl [3, 40, 200, 9999] #[.int .u64 3, .int .u64 40, .int .u64 200, .int .u64 9999] rfl (by simp) (by kernel_rfl) ?_
        intro W5 v5 g5 f5 hg5 hx5
        obtain ⟨o5, c5, rfl, _, _⟩ := f5.shape
        obtain ⟨q5, r5, rfl, l5, e5, _⟩ := f5.el1 (f := fun n : Nat => Value.int .u64 n) (fun _ => rfl) ha2
        obtain rfl := Option.some.inj r5
        clear r5 f5 hg5
        have e0 := cell_keep hx5 l0 e0
        have l0 := Nat.lt_of_lt_of_le l0 hx5.size
        have HB5 := Lib.hid (below_call HB0.out HB0.out.size hx5)
        have z5 := below_keeps hx5 z0 (heap_lt z0)
        refine hK.out _ _ (by exact e0) (fun hHeld => ?_)
        clear hK K
        try simp only [Act.put, List.setIfInBounds_toArray, List.set_cons_zero, List.set_cons_succ]
        refine wpTill_more (S' := fun w' => (w'.cell? ⟨g0, i1, none⟩ = some (.int .u64 a1)) ∧ w'.cell? ⟨g5, i2, none⟩ = some (.int .u64 a2)) (fun _ h => h.1) ?_
        replace hHeld : (W5.cell? ⟨g0, i1, none⟩ = some (.int .u64 a1)) ∧ W5.cell? ⟨g5, i2, none⟩ = some (.int .u64 a2) := ⟨e0, e5⟩
        refine wpTill_take0 (i := 9) (oi := ⟨some 12, _, _, _, _, _⟩) (v := ?_) rfl (by kernel_rfl) (fun _ _ _ h => h) (Or.inl ⟨by rfl, ?_⟩) (fun _ => hHeld) ?_
        rotate_left
        · intro w hSw
          (try dsimp only at hSw)
          go_simp
          try with_reducible rfl
        try simp only [Act.put, List.setIfInBounds_toArray, List.set_cons_zero, List.set_cons_succ]
        refine wpTill_take (i := 10) (oi := ⟨some 13, _, _, _, _, _⟩) (v := ?_) rfl (by kernel_rfl) (fun _ _ _ h => h) (Or.inl ⟨by rfl, ?_⟩) (by exact hHeld) ?_
        rotate_left
        · intro w hSw
          (try dsimp only at hSw)
          go_simp
          try with_reducible rfl
        try simp only [Act.put, List.setIfInBounds_toArray, List.set_cons_zero, List.set_cons_succ]
        refine wpTill_ready (rs := [11]) (by kernel_rfl) (by simp) ?_
        refine AllTill.cons (o := ⟨some 14, _, _, _, _, _⟩) rfl (fun K hK => ?_) AllTill.nil
        refine step_fresh (enc := encU) (E := 25) rfl [0, 1, 3, 99] #[.int .u64 0, .int .u64 1, .int .u64 3, .int .u64 99] rfl (by simp) (by kernel_rfl) ?_
        intro W11 v11 g11 f11 hg11 hx11
        obtain ⟨o11, c11, rfl, _, _⟩ := f11.shape
        obtain ⟨q11, r11, rfl, l11, e11, _⟩ := f11.el1 (f := fun n : Nat => Value.int .u64 n) (fun _ => rfl) ha3
        obtain rfl := Option.some.inj r11
        clear r11 f11 hg11
        have e0 := cell_keep hx11 l0 e0
        have e5 := cell_keep hx11 l5 e5
        have l0 := Nat.lt_of_lt_of_le l0 hx11.size
        have l5 := Nat.lt_of_lt_of_le l5 hx11.size
        have HB11 := Lib.hid (below_call HB5.out HB5.out.size hx11)
        have z11 := below_keeps hx11 z5 (heap_lt z5)
        refine hK.out _ _ (by exact ⟨e0, e5⟩) (fun hHeld => ?_)
        clear hK K
        try simp only [Act.put, List.setIfInBounds_toArray, List.set_cons_zero, List.set_cons_succ]
        refine wpTill_more (S' := fun w' => ((w'.cell? ⟨g0, i1, none⟩ = some (.int .u64 a1)) ∧ w'.cell? ⟨g5, i2, none⟩ = some (.int .u64 a2)) ∧ w'.cell? ⟨g11, i3, none⟩ = some (.int .u64 a3)) (fun _ h => h.1) ?_
        replace hHeld : ((W11.cell? ⟨g0, i1, none⟩ = some (.int .u64 a1)) ∧ W11.cell? ⟨g5, i2, none⟩ = some (.int .u64 a2)) ∧ W11.cell? ⟨g11, i3, none⟩ = some (.int .u64 a3) := ⟨⟨e0, e5⟩, e11⟩
        refine wpTill_take0 (i := 15) (oi := ⟨some 18, _, _, _, _, _⟩) (v := ?_) rfl (by kernel_rfl) (fun _ _ _ h => h) (Or.inl ⟨by rfl, ?_⟩) (fun _ => hHeld) ?_
        rotate_left
        · intro w hSw
          (try dsimp only at hSw)
          go_simp
          try with_reducible rfl
        try simp only [Act.put, List.setIfInBounds_toArray, List.set_cons_zero, List.set_cons_succ]
        refine wpTill_take (i := 16) (oi := ⟨some 19, _, _, _, _, _⟩) (v := ?_) rfl (by kernel_rfl) (fun _ _ _ h => h) (Or.inl ⟨by rfl, ?_⟩) (by exact hHeld) ?_
        rotate_left
        · intro w hSw
          (try dsimp only at hSw)
          go_simp
          try with_reducible rfl
        try simp only [Act.put, List.setIfInBounds_toArray, List.set_cons_zero, List.set_cons_succ]
        refine wpTill_take0 (i := 17) (oi := ⟨some 20, _, _, _, _, _⟩) (v := ?_) rfl (by kernel_rfl) (fun _ _ _ h => h) (Or.inl ⟨by rfl, ?_⟩) (fun _ => hHeld) ?_
        rotate_left
        · intro w hSw
          (try dsimp only at hSw)
          go_simp
          try with_reducible rfl
        try simp only [Act.put, List.setIfInBounds_toArray, List.set_cons_zero, List.set_cons_succ]
        refine wpTill_ready (rs := [18]) (by kernel_rfl) (by simp) ?_
        refine AllTill.consD (o := ⟨none, _, _, _, _, _⟩) rfl (by kernel_rfl) (fun K hK => ?_) AllTill.nil
        rw [if_pos (show Region.wanted _ _ = true from rfl)]
        refine wp_store_row 29 (.tmp 2) (.tmp 20) rfl _ _ rfl rfl 29 _ (by exact z11) (by rw [sizePm]; rfl) (by rfl) (by simp [Value.oneCell']) ?_
        refine hK.out _ _ ?_
        clear hK K
        try simp only [Act.put, List.setIfInBounds_toArray, List.set_cons_zero, List.set_cons_succ]
        refine wpTill_done (by kernel_rfl) ?_ _
        go_wp2_with fail
        go_meet
        case rel => exact ⟨_, rfl, Nat.le_refl _, setRow_heap _ _ _ _ _ _ z11, setRow_below1 HB11.out (Nat.le_refl _)⟩
      refine AllTill.cons (o := ⟨some 14, _, _, _, _, _⟩) rfl (fun K hK => ?_) ?_
      · refine step_fresh (enc := encU) (E := 25) rfl [0, 1, 3, 99] #[.int .u64 0, .int .u64 1, .int .u64 3, .int .u64 99] rfl (by simp) (by kernel_rfl) ?_
        intro W11 v11 g11 f11 hg11 hx11
        obtain ⟨o11, c11, rfl, _, _⟩ := f11.shape
        obtain ⟨q11, r11, rfl, l11, e11, _⟩ := f11.el1 (f := fun n : Nat => Value.int .u64 n) (fun _ => rfl) ha3
        obtain rfl := Option.some.inj r11
        clear r11 f11 hg11
        have e0 := cell_keep hx11 l0 e0
        have l0 := Nat.lt_of_lt_of_le l0 hx11.size
        have HB11 := Lib.hid (below_call HB0.out HB0.out.size hx11)
        have z11 := below_keeps hx11 z0 (heap_lt z0)
        refine hK.out _ _ (by exact e0) (fun hHeld => ?_)
        clear hK K
        try simp only [Act.put, List.setIfInBounds_toArray, List.set_cons_zero, List.set_cons_succ]
        refine wpTill_more (S' := fun w' => (w'.cell? ⟨g0, i1, none⟩ = some (.int .u64 a1)) ∧ w'.cell? ⟨g11, i3, none⟩ = some (.int .u64 a3)) (fun _ h => h.1) ?_
        replace hHeld : (W11.cell? ⟨g0, i1, none⟩ = some (.int .u64 a1)) ∧ W11.cell? ⟨g11, i3, none⟩ = some (.int .u64 a3) := ⟨e0, e11⟩
        refine wpTill_take0 (i := 15) (oi := ⟨some 18, _, _, _, _, _⟩) (v := ?_) rfl (by kernel_rfl) (fun _ _ _ h => h) (Or.inl ⟨by rfl, ?_⟩) (fun _ => hHeld) ?_
        rotate_left
        · intro w hSw
          (try dsimp only at hSw)
          go_simp
          try with_reducible rfl
        try simp only [Act.put, List.setIfInBounds_toArray, List.set_cons_zero, List.set_cons_succ]
        refine wpTill_take (i := 16) (oi := ⟨some 19, _, _, _, _, _⟩) (v := ?_) rfl (by kernel_rfl) (fun _ _ _ h => h) (Or.inl ⟨by rfl, ?_⟩) (by exact hHeld) ?_
        rotate_left
        · intro w hSw
          (try dsimp only at hSw)
          go_simp
          try with_reducible rfl
        try simp only [Act.put, List.setIfInBounds_toArray, List.set_cons_zero, List.set_cons_succ]
        refine wpTill_ready (rs := [5]) (by kernel_rfl) (by simp) ?_
        refine AllTill.cons (o := ⟨some 8, _, _, _, _, _⟩) rfl (fun K hK => ?_) AllTill.nil
        refine step_fresh (enc := encU) (E := 25) rfl [3, 40, 200, 9999] #[.int .u64 3, .int .u64 40, .int .u64 200, .int .u64 9999] rfl (by simp) (by kernel_rfl) ?_
        intro W5 v5 g5 f5 hg5 hx5
        obtain ⟨o5, c5, rfl, _, _⟩ := f5.shape
        obtain ⟨q5, r5, rfl, l5, e5, _⟩ := f5.el1 (f := fun n : Nat => Value.int .u64 n) (fun _ => rfl) ha2
        obtain rfl := Option.some.inj r5
        clear r5 f5 hg5
        have e0 := cell_keep hx5 l0 e0
        have e11 := cell_keep hx5 l11 e11
        have l0 := Nat.lt_of_lt_of_le l0 hx5.size
        have l11 := Nat.lt_of_lt_of_le l11 hx5.size
        have HB5 := Lib.hid (below_call HB11.out HB11.out.size hx5)
        have z5 := below_keeps hx5 z11 (heap_lt z11)
        refine hK.out _ _ (by exact ⟨e0, e11⟩) (fun hHeld => ?_)
        clear hK K
        try simp only [Act.put, List.setIfInBounds_toArray, List.set_cons_zero, List.set_cons_succ]
        refine wpTill_more (S' := fun w' => ((w'.cell? ⟨g0, i1, none⟩ = some (.int .u64 a1)) ∧ w'.cell? ⟨g11, i3, none⟩ = some (.int .u64 a3)) ∧ w'.cell? ⟨g5, i2, none⟩ = some (.int .u64 a2)) (fun _ h => h.1) ?_
        replace hHeld : ((W5.cell? ⟨g0, i1, none⟩ = some (.int .u64 a1)) ∧ W5.cell? ⟨g11, i3, none⟩ = some (.int .u64 a3)) ∧ W5.cell? ⟨g5, i2, none⟩ = some (.int .u64 a2) := ⟨⟨e0, e11⟩, e5⟩
        refine wpTill_take0 (i := 9) (oi := ⟨some 12, _, _, _, _, _⟩) (v := ?_) rfl (by kernel_rfl) (fun _ _ _ h => h) (Or.inl ⟨by rfl, ?_⟩) (fun _ => hHeld) ?_
        rotate_left
        · intro w hSw
          (try dsimp only at hSw)
          go_simp
          try with_reducible rfl
        try simp only [Act.put, List.setIfInBounds_toArray, List.set_cons_zero, List.set_cons_succ]
        refine wpTill_take (i := 10) (oi := ⟨some 13, _, _, _, _, _⟩) (v := ?_) rfl (by kernel_rfl) (fun _ _ _ h => h) (Or.inl ⟨by rfl, ?_⟩) (by exact hHeld) ?_
        rotate_left
        · intro w hSw
          (try dsimp only at hSw)
          go_simp
          try with_reducible rfl
        try simp only [Act.put, List.setIfInBounds_toArray, List.set_cons_zero, List.set_cons_succ]
        refine wpTill_take0 (i := 17) (oi := ⟨some 20, _, _, _, _, _⟩) (v := ?_) rfl (by kernel_rfl) (fun _ _ _ h => h) (Or.inl ⟨by rfl, ?_⟩) (fun _ => hHeld) ?_
        rotate_left
        · intro w hSw
          (try dsimp only at hSw)
          go_simp
          try with_reducible rfl
        try simp only [Act.put, List.setIfInBounds_toArray, List.set_cons_zero, List.set_cons_succ]
        refine wpTill_ready (rs := [18]) (by kernel_rfl) (by simp) ?_
        refine AllTill.consD (o := ⟨none, _, _, _, _, _⟩) rfl (by kernel_rfl) (fun K hK => ?_) AllTill.nil
        rw [if_pos (show Region.wanted _ _ = true from rfl)]
        refine wp_store_row 29 (.tmp 2) (.tmp 20) rfl _ _ rfl rfl 29 _ (by exact z5) (by rw [sizePm]; rfl) (by rfl) (by simp [Value.oneCell']) ?_
        refine hK.out _ _ ?_
        clear hK K
        try simp only [Act.put, List.setIfInBounds_toArray, List.set_cons_zero, List.set_cons_succ]
        refine wpTill_done (by kernel_rfl) ?_ _
        go_wp2_with fail
        go_meet
        case rel => exact ⟨_, rfl, Nat.le_refl _, setRow_heap _ _ _ _ _ _ z5, setRow_below1 HB5.out (Nat.le_refl _)⟩
      exact AllTill.nil
    refine AllTill.cons (o := ⟨some 8, _, _, _, _, _⟩) rfl (fun K hK => ?_) ?_
    · refine step_fresh (enc := encU) (E := 25) rfl [3, 40, 200, 9999] #[.int .u64 3, .int .u64 40, .int .u64 200, .int .u64 9999] rfl (by simp) (by kernel_rfl) ?_
      intro W5 v5 g5 f5 hg5 hx5
      obtain ⟨o5, c5, rfl, _, _⟩ := f5.shape
      obtain ⟨q5, r5, rfl, l5, e5, _⟩ := f5.el1 (f := fun n : Nat => Value.int .u64 n) (fun _ => rfl) ha2
      obtain rfl := Option.some.inj r5
      clear r5 f5 hg5
      have HB5 := Lib.hid (below_call HBA.out HBA.out.size hx5)
      have z5 := below_keeps hx5 z (heap_lt z)
      refine hK.out _ _ (by exact trivial) (fun hHeld => ?_)
      clear hK K
      try simp only [Act.put, List.setIfInBounds_toArray, List.set_cons_zero, List.set_cons_succ]
      refine wpTill_more (S' := fun w' => w'.cell? ⟨g5, i2, none⟩ = some (.int .u64 a2)) (fun _ h => trivial) ?_
      replace hHeld : W5.cell? ⟨g5, i2, none⟩ = some (.int .u64 a2) := e5
      refine wpTill_take0 (i := 9) (oi := ⟨some 12, _, _, _, _, _⟩) (v := ?_) rfl (by kernel_rfl) (fun _ _ _ h => h) (Or.inl ⟨by rfl, ?_⟩) (fun _ => hHeld) ?_
      rotate_left
      · intro w hSw
        (try dsimp only at hSw)
        go_simp
        try with_reducible rfl
      try simp only [Act.put, List.setIfInBounds_toArray, List.set_cons_zero, List.set_cons_succ]
      refine wpTill_take (i := 10) (oi := ⟨some 13, _, _, _, _, _⟩) (v := ?_) rfl (by kernel_rfl) (fun _ _ _ h => h) (Or.inl ⟨by rfl, ?_⟩) (by exact hHeld) ?_
      rotate_left
      · intro w hSw
        (try dsimp only at hSw)
        go_simp
        try with_reducible rfl
      try simp only [Act.put, List.setIfInBounds_toArray, List.set_cons_zero, List.set_cons_succ]
      refine wpTill_ready (rs := [0, 11]) (by kernel_rfl) (by simp) ?_
      refine AllTill.cons (o := ⟨some 3, _, _, _, _, _⟩) rfl (fun K hK => ?_) ?_
      · refine step_fresh (enc := encU) (E := 25) rfl [5, 60, 300, 100000] #[.int .u64 5, .int .u64 60, .int .u64 300, .int .u64 100000] rfl (by simp) (by kernel_rfl) ?_
        intro W0 v0 g0 f0 hg0 hx0
        obtain ⟨o0, c0, rfl, _, _⟩ := f0.shape
        obtain ⟨q0, r0, rfl, l0, e0, _⟩ := f0.el1 (f := fun n : Nat => Value.int .u64 n) (fun _ => rfl) ha1
        obtain rfl := Option.some.inj r0
        clear r0 f0 hg0
        have e5 := cell_keep hx0 l5 e5
        have l5 := Nat.lt_of_lt_of_le l5 hx0.size
        have HB0 := Lib.hid (below_call HB5.out HB5.out.size hx0)
        have z0 := below_keeps hx0 z5 (heap_lt z5)
        refine hK.out _ _ (by exact e5) (fun hHeld => ?_)
        clear hK K
        try simp only [Act.put, List.setIfInBounds_toArray, List.set_cons_zero, List.set_cons_succ]
        refine wpTill_more (S' := fun w' => (w'.cell? ⟨g5, i2, none⟩ = some (.int .u64 a2)) ∧ w'.cell? ⟨g0, i1, none⟩ = some (.int .u64 a1)) (fun _ h => h.1) ?_
        replace hHeld : (W0.cell? ⟨g5, i2, none⟩ = some (.int .u64 a2)) ∧ W0.cell? ⟨g0, i1, none⟩ = some (.int .u64 a1) := ⟨e5, e0⟩
        refine wpTill_take0 (i := 3) (oi := ⟨some 6, _, _, _, _, _⟩) (v := ?_) rfl (by kernel_rfl) (fun _ _ _ h => h) (Or.inl ⟨by rfl, ?_⟩) (fun _ => hHeld) ?_
        rotate_left
        · intro w hSw
          (try dsimp only at hSw)
          go_simp
          try with_reducible rfl
        try simp only [Act.put, List.setIfInBounds_toArray, List.set_cons_zero, List.set_cons_succ]
        refine wpTill_take (i := 4) (oi := ⟨some 7, _, _, _, _, _⟩) (v := ?_) rfl (by kernel_rfl) (fun _ _ _ h => h) (Or.inl ⟨by rfl, ?_⟩) (by exact hHeld) ?_
        rotate_left
        · intro w hSw
          (try dsimp only at hSw)
          go_simp
          try with_reducible rfl
        try simp only [Act.put, List.setIfInBounds_toArray, List.set_cons_zero, List.set_cons_succ]
        refine wpTill_ready (rs := [11]) (by kernel_rfl) (by simp) ?_
        refine AllTill.cons (o := ⟨some 14, _, _, _, _, _⟩) rfl (fun K hK => ?_) AllTill.nil
        refine step_fresh (enc := encU) (E := 25) rfl [0, 1, 3, 99] #[.int .u64 0, .int .u64 1, .int .u64 3, .int .u64 99] rfl (by simp) (by kernel_rfl) ?_
        intro W11 v11 g11 f11 hg11 hx11
        obtain ⟨o11, c11, rfl, _, _⟩ := f11.shape
        obtain ⟨q11, r11, rfl, l11, e11, _⟩ := f11.el1 (f := fun n : Nat => Value.int .u64 n) (fun _ => rfl) ha3
        obtain rfl := Option.some.inj r11
        clear r11 f11 hg11
        have e5 := cell_keep hx11 l5 e5
        have e0 := cell_keep hx11 l0 e0
        have l5 := Nat.lt_of_lt_of_le l5 hx11.size
        have l0 := Nat.lt_of_lt_of_le l0 hx11.size
        have HB11 := Lib.hid (below_call HB0.out HB0.out.size hx11)
        have z11 := below_keeps hx11 z0 (heap_lt z0)
        refine hK.out _ _ (by exact ⟨e5, e0⟩) (fun hHeld => ?_)
        clear hK K
        try simp only [Act.put, List.setIfInBounds_toArray, List.set_cons_zero, List.set_cons_succ]
        refine wpTill_more (S' := fun w' => ((w'.cell? ⟨g5, i2, none⟩ = some (.int .u64 a2)) ∧ w'.cell? ⟨g0, i1, none⟩ = some (.int .u64 a1)) ∧ w'.cell? ⟨g11, i3, none⟩ = some (.int .u64 a3)) (fun _ h => h.1) ?_
        replace hHeld : ((W11.cell? ⟨g5, i2, none⟩ = some (.int .u64 a2)) ∧ W11.cell? ⟨g0, i1, none⟩ = some (.int .u64 a1)) ∧ W11.cell? ⟨g11, i3, none⟩ = some (.int .u64 a3) := ⟨⟨e5, e0⟩, e11⟩
        refine wpTill_take0 (i := 15) (oi := ⟨some 18, _, _, _, _, _⟩) (v := ?_) rfl (by kernel_rfl) (fun _ _ _ h => h) (Or.inl ⟨by rfl, ?_⟩) (fun _ => hHeld) ?_
        rotate_left
        · intro w hSw
          (try dsimp only at hSw)
          go_simp
          try with_reducible rfl
        try simp only [Act.put, List.setIfInBounds_toArray, List.set_cons_zero, List.set_cons_succ]
        refine wpTill_take (i := 16) (oi := ⟨some 19, _, _, _, _, _⟩) (v := ?_) rfl (by kernel_rfl) (fun _ _ _ h => h) (Or.inl ⟨by rfl, ?_⟩) (by exact hHeld) ?_
        rotate_left
        · intro w hSw
          (try dsimp only at hSw)
          go_simp
          try with_reducible rfl
        try simp only [Act.put, List.setIfInBounds_toArray, List.set_cons_zero, List.set_cons_succ]
        refine wpTill_take0 (i := 17) (oi := ⟨some 20, _, _, _, _, _⟩) (v := ?_) rfl (by kernel_rfl) (fun _ _ _ h => h) (Or.inl ⟨by rfl, ?_⟩) (fun _ => hHeld) ?_
        rotate_left
        · intro w hSw
          (try dsimp only at hSw)
          go_simp
          try with_reducible rfl
        try simp only [Act.put, List.setIfInBounds_toArray, List.set_cons_zero, List.set_cons_succ]
        refine wpTill_ready (rs := [18]) (by kernel_rfl) (by simp) ?_
        refine AllTill.consD (o := ⟨none, _, _, _, _, _⟩) rfl (by kernel_rfl) (fun K hK => ?_) AllTill.nil
        rw [if_pos (show Region.wanted _ _ = true from rfl)]
        refine wp_store_row 29 (.tmp 2) (.tmp 20) rfl _ _ rfl rfl 29 _ (by exact z11) (by rw [sizePm]; rfl) (by rfl) (by simp [Value.oneCell']) ?_
        refine hK.out _ _ ?_
        clear hK K
        try simp only [Act.put, List.setIfInBounds_toArray, List.set_cons_zero, List.set_cons_succ]
        refine wpTill_done (by kernel_rfl) ?_ _
        go_wp2_with fail
        go_meet
        case rel => exact ⟨_, rfl, Nat.le_refl _, setRow_heap _ _ _ _ _ _ z11, setRow_below1 HB11.out (Nat.le_refl _)⟩
      refine AllTill.cons (o := ⟨some 14, _, _, _, _, _⟩) rfl (fun K hK => ?_) ?_
      · refine step_fresh (enc := encU) (E := 25) rfl [0, 1, 3, 99] #[.int .u64 0, .int .u64 1, .int .u64 3, .int .u64 99] rfl (by simp) (by kernel_rfl) ?_
        intro W11 v11 g11 f11 hg11 hx11
        obtain ⟨o11, c11, rfl, _, _⟩ := f11.shape
        obtain ⟨q11, r11, rfl, l11, e11, _⟩ := f11.el1 (f := fun n : Nat => Value.int .u64 n) (fun _ => rfl) ha3
        obtain rfl := Option.some.inj r11
        clear r11 f11 hg11
        have e5 := cell_keep hx11 l5 e5
        have l5 := Nat.lt_of_lt_of_le l5 hx11.size
        have HB11 := Lib.hid (below_call HB5.out HB5.out.size hx11)
        have z11 := below_keeps hx11 z5 (heap_lt z5)
        refine hK.out _ _ (by exact e5) (fun hHeld => ?_)
        clear hK K
        try simp only [Act.put, List.setIfInBounds_toArray, List.set_cons_zero, List.set_cons_succ]
        refine wpTill_more (S' := fun w' => (w'.cell? ⟨g5, i2, none⟩ = some (.int .u64 a2)) ∧ w'.cell? ⟨g11, i3, none⟩ = some (.int .u64 a3)) (fun _ h => h.1) ?_
        replace hHeld : (W11.cell? ⟨g5, i2, none⟩ = some (.int .u64 a2)) ∧ W11.cell? ⟨g11, i3, none⟩ = some (.int .u64 a3) := ⟨e5, e11⟩
        refine wpTill_take0 (i := 15) (oi := ⟨some 18, _, _, _, _, _⟩) (v := ?_) rfl (by kernel_rfl) (fun _ _ _ h => h) (Or.inl ⟨by rfl, ?_⟩) (fun _ => hHeld) ?_
        rotate_left
        · intro w hSw
          (try dsimp only at hSw)
          go_simp
          try with_reducible rfl
        try simp only [Act.put, List.setIfInBounds_toArray, List.set_cons_zero, List.set_cons_succ]
        refine wpTill_take (i := 16) (oi := ⟨some 19, _, _, _, _, _⟩) (v := ?_) rfl (by kernel_rfl) (fun _ _ _ h => h) (Or.inl ⟨by rfl, ?_⟩) (by exact hHeld) ?_
        rotate_left
        · intro w hSw
          (try dsimp only at hSw)
          go_simp
          try with_reducible rfl
        try simp only [Act.put, List.setIfInBounds_toArray, List.set_cons_zero, List.set_cons_succ]
        refine wpTill_ready (rs := [0]) (by kernel_rfl) (by simp) ?_
        refine AllTill.cons (o := ⟨some 3, _, _, _, _, _⟩) rfl (fun K hK => ?_) AllTill.nil
        refine step_fresh (enc := encU) (E := 25) rfl [5, 60, 300, 100000] #[.int .u64 5, .int .u64 60, .int .u64 300, .int .u64 100000] rfl (by simp) (by kernel_rfl) ?_
        intro W0 v0 g0 f0 hg0 hx0
        obtain ⟨o0, c0, rfl, _, _⟩ := f0.shape
        obtain ⟨q0, r0, rfl, l0, e0, _⟩ := f0.el1 (f := fun n : Nat => Value.int .u64 n) (fun _ => rfl) ha1
        obtain rfl := Option.some.inj r0
        clear r0 f0 hg0
        have e5 := cell_keep hx0 l5 e5
        have e11 := cell_keep hx0 l11 e11
        have l5 := Nat.lt_of_lt_of_le l5 hx0.size
        have l11 := Nat.lt_of_lt_of_le l11 hx0.size
        have HB0 := Lib.hid (below_call HB11.out HB11.out.size hx0)
        have z0 := below_keeps hx0 z11 (heap_lt z11)
        refine hK.out _ _ (by exact ⟨e5, e11⟩) (fun hHeld => ?_)
        clear hK K
        try simp only [Act.put, List.setIfInBounds_toArray, List.set_cons_zero, List.set_cons_succ]
        refine wpTill_more (S' := fun w' => ((w'.cell? ⟨g5, i2, none⟩ = some (.int .u64 a2)) ∧ w'.cell? ⟨g11, i3, none⟩ = some (.int .u64 a3)) ∧ w'.cell? ⟨g0, i1, none⟩ = some (.int .u64 a1)) (fun _ h => h.1) ?_
        replace hHeld : ((W0.cell? ⟨g5, i2, none⟩ = some (.int .u64 a2)) ∧ W0.cell? ⟨g11, i3, none⟩ = some (.int .u64 a3)) ∧ W0.cell? ⟨g0, i1, none⟩ = some (.int .u64 a1) := ⟨⟨e5, e11⟩, e0⟩
        refine wpTill_take0 (i := 3) (oi := ⟨some 6, _, _, _, _, _⟩) (v := ?_) rfl (by kernel_rfl) (fun _ _ _ h => h) (Or.inl ⟨by rfl, ?_⟩) (fun _ => hHeld) ?_
        rotate_left
        · intro w hSw
          (try dsimp only at hSw)
          go_simp
          try with_reducible rfl
        try simp only [Act.put, List.setIfInBounds_toArray, List.set_cons_zero, List.set_cons_succ]
        refine wpTill_take (i := 4) (oi := ⟨some 7, _, _, _, _, _⟩) (v := ?_) rfl (by kernel_rfl) (fun _ _ _ h => h) (Or.inl ⟨by rfl, ?_⟩) (by exact hHeld) ?_
        rotate_left
        · intro w hSw
          (try dsimp only at hSw)
          go_simp
          try with_reducible rfl
        try simp only [Act.put, List.setIfInBounds_toArray, List.set_cons_zero, List.set_cons_succ]
        refine wpTill_take0 (i := 17) (oi := ⟨some 20, _, _, _, _, _⟩) (v := ?_) rfl (by kernel_rfl) (fun _ _ _ h => h) (Or.inl ⟨by rfl, ?_⟩) (fun _ => hHeld) ?_
        rotate_left
        · intro w hSw
          (try dsimp only at hSw)
          go_simp
          try with_reducible rfl
        try simp only [Act.put, List.setIfInBounds_toArray, List.set_cons_zero, List.set_cons_succ]
        refine wpTill_ready (rs := [18]) (by kernel_rfl) (by simp) ?_
        refine AllTill.consD (o := ⟨none, _, _, _, _, _⟩) rfl (by kernel_rfl) (fun K hK => ?_) AllTill.nil
        rw [if_pos (show Region.wanted _ _ = true from rfl)]
        refine wp_store_row 29 (.tmp 2) (.tmp 20) rfl _ _ rfl rfl 29 _ (by exact z0) (by rw [sizePm]; rfl) (by rfl) (by simp [Value.oneCell']) ?_
        refine hK.out _ _ ?_
        clear hK K
        try simp only [Act.put, List.setIfInBounds_toArray, List.set_cons_zero, List.set_cons_succ]
        refine wpTill_done (by kernel_rfl) ?_ _
        go_wp2_with fail
        go_meet
        case rel => exact ⟨_, rfl, Nat.le_refl _, setRow_heap _ _ _ _ _ _ z0, setRow_below1 HB0.out (Nat.le_refl _)⟩
      exact AllTill.nil
    refine AllTill.cons (o := ⟨some 14, _, _, _, _, _⟩) rfl (fun K hK => ?_) ?_
    · refine step_fresh (enc := encU) (E := 25) rfl [0, 1, 3, 99] #[.int .u64 0, .int .u64 1, .int .u64 3, .int .u64 99] rfl (by simp) (by kernel_rfl) ?_
      intro W11 v11 g11 f11 hg11 hx11
      obtain ⟨o11, c11, rfl, _, _⟩ := f11.shape
      obtain ⟨q11, r11, rfl, l11, e11, _⟩ := f11.el1 (f := fun n : Nat => Value.int .u64 n) (fun _ => rfl) ha3
      obtain rfl := Option.some.inj r11
      clear r11 f11 hg11
      have HB11 := Lib.hid (below_call HBA.out HBA.out.size hx11)
      have z11 := below_keeps hx11 z (heap_lt z)
      refine hK.out _ _ (by exact trivial) (fun hHeld => ?_)
      clear hK K
      try simp only [Act.put, List.setIfInBounds_toArray, List.set_cons_zero, List.set_cons_succ]
      refine wpTill_more (S' := fun w' => w'.cell? ⟨g11, i3, none⟩ = some (.int .u64 a3)) (fun _ h => trivial) ?_
      replace hHeld : W11.cell? ⟨g11, i3, none⟩ = some (.int .u64 a3) := e11
      refine wpTill_take0 (i := 15) (oi := ⟨some 18, _, _, _, _, _⟩) (v := ?_) rfl (by kernel_rfl) (fun _ _ _ h => h) (Or.inl ⟨by rfl, ?_⟩) (fun _ => hHeld) ?_
      rotate_left
      · intro w hSw
        (try dsimp only at hSw)
        go_simp
        try with_reducible rfl
      try simp only [Act.put, List.setIfInBounds_toArray, List.set_cons_zero, List.set_cons_succ]
      refine wpTill_take (i := 16) (oi := ⟨some 19, _, _, _, _, _⟩) (v := ?_) rfl (by kernel_rfl) (fun _ _ _ h => h) (Or.inl ⟨by rfl, ?_⟩) (by exact hHeld) ?_
      rotate_left
      · intro w hSw
        (try dsimp only at hSw)
        go_simp
        try with_reducible rfl
      try simp only [Act.put, List.setIfInBounds_toArray, List.set_cons_zero, List.set_cons_succ]
      refine wpTill_ready (rs := [0, 5]) (by kernel_rfl) (by simp) ?_
      refine AllTill.cons (o := ⟨some 3, _, _, _, _, _⟩) rfl (fun K hK => ?_) ?_
      · refine step_fresh (enc := encU) (E := 25) rfl [5, 60, 300, 100000] #[.int .u64 5, .int .u64 60, .int .u64 300, .int .u64 100000] rfl (by simp) (by kernel_rfl) ?_
        intro W0 v0 g0 f0 hg0 hx0
        obtain ⟨o0, c0, rfl, _, _⟩ := f0.shape
        obtain ⟨q0, r0, rfl, l0, e0, _⟩ := f0.el1 (f := fun n : Nat => Value.int .u64 n) (fun _ => rfl) ha1
        obtain rfl := Option.some.inj r0
        clear r0 f0 hg0
        have e11 := cell_keep hx0 l11 e11
        have l11 := Nat.lt_of_lt_of_le l11 hx0.size
        have HB0 := Lib.hid (below_call HB11.out HB11.out.size hx0)
        have z0 := below_keeps hx0 z11 (heap_lt z11)
        refine hK.out _ _ (by exact e11) (fun hHeld => ?_)
        clear hK K
        try simp only [Act.put, List.setIfInBounds_toArray, List.set_cons_zero, List.set_cons_succ]
        refine wpTill_more (S' := fun w' => (w'.cell? ⟨g11, i3, none⟩ = some (.int .u64 a3)) ∧ w'.cell? ⟨g0, i1, none⟩ = some (.int .u64 a1)) (fun _ h => h.1) ?_
        replace hHeld : (W0.cell? ⟨g11, i3, none⟩ = some (.int .u64 a3)) ∧ W0.cell? ⟨g0, i1, none⟩ = some (.int .u64 a1) := ⟨e11, e0⟩
        refine wpTill_take0 (i := 3) (oi := ⟨some 6, _, _, _, _, _⟩) (v := ?_) rfl (by kernel_rfl) (fun _ _ _ h => h) (Or.inl ⟨by rfl, ?_⟩) (fun _ => hHeld) ?_
        rotate_left
        · intro w hSw
          (try dsimp only at hSw)
          go_simp
          try with_reducible rfl
        try simp only [Act.put, List.setIfInBounds_toArray, List.set_cons_zero, List.set_cons_succ]
        refine wpTill_take (i := 4) (oi := ⟨some 7, _, _, _, _, _⟩) (v := ?_) rfl (by kernel_rfl) (fun _ _ _ h => h) (Or.inl ⟨by rfl, ?_⟩) (by exact hHeld) ?_
        rotate_left
        · intro w hSw
          (try dsimp only at hSw)
          go_simp
          try with_reducible rfl
        try simp only [Act.put, List.setIfInBounds_toArray, List.set_cons_zero, List.set_cons_succ]
        refine wpTill_ready (rs := [5]) (by kernel_rfl) (by simp) ?_
        refine AllTill.cons (o := ⟨some 8, _, _, _, _, _⟩) rfl (fun K hK => ?_) AllTill.nil
        refine step_fresh (enc := encU) (E := 25) rfl [3, 40, 200, 9999] #[.int .u64 3, .int .u64 40, .int .u64 200, .int .u64 9999] rfl (by simp) (by kernel_rfl) ?_
        intro W5 v5 g5 f5 hg5 hx5
        obtain ⟨o5, c5, rfl, _, _⟩ := f5.shape
        obtain ⟨q5, r5, rfl, l5, e5, _⟩ := f5.el1 (f := fun n : Nat => Value.int .u64 n) (fun _ => rfl) ha2
        obtain rfl := Option.some.inj r5
        clear r5 f5 hg5
        have e11 := cell_keep hx5 l11 e11
        have e0 := cell_keep hx5 l0 e0
        have l11 := Nat.lt_of_lt_of_le l11 hx5.size
        have l0 := Nat.lt_of_lt_of_le l0 hx5.size
        have HB5 := Lib.hid (below_call HB0.out HB0.out.size hx5)
        have z5 := below_keeps hx5 z0 (heap_lt z0)
        refine hK.out _ _ (by exact ⟨e11, e0⟩) (fun hHeld => ?_)
        clear hK K
        try simp only [Act.put, List.setIfInBounds_toArray, List.set_cons_zero, List.set_cons_succ]
        refine wpTill_more (S' := fun w' => ((w'.cell? ⟨g11, i3, none⟩ = some (.int .u64 a3)) ∧ w'.cell? ⟨g0, i1, none⟩ = some (.int .u64 a1)) ∧ w'.cell? ⟨g5, i2, none⟩ = some (.int .u64 a2)) (fun _ h => h.1) ?_
        replace hHeld : ((W5.cell? ⟨g11, i3, none⟩ = some (.int .u64 a3)) ∧ W5.cell? ⟨g0, i1, none⟩ = some (.int .u64 a1)) ∧ W5.cell? ⟨g5, i2, none⟩ = some (.int .u64 a2) := ⟨⟨e11, e0⟩, e5⟩
        refine wpTill_take0 (i := 9) (oi := ⟨some 12, _, _, _, _, _⟩) (v := ?_) rfl (by kernel_rfl) (fun _ _ _ h => h) (Or.inl ⟨by rfl, ?_⟩) (fun _ => hHeld) ?_
        rotate_left
        · intro w hSw
          (try dsimp only at hSw)
          go_simp
          try with_reducible rfl
        try simp only [Act.put, List.setIfInBounds_toArray, List.set_cons_zero, List.set_cons_succ]
        refine wpTill_take (i := 10) (oi := ⟨some 13, _, _, _, _, _⟩) (v := ?_) rfl (by kernel_rfl) (fun _ _ _ h => h) (Or.inl ⟨by rfl, ?_⟩) (by exact hHeld) ?_
        rotate_left
        · intro w hSw
          (try dsimp only at hSw)
          go_simp
          try with_reducible rfl
        try simp only [Act.put, List.setIfInBounds_toArray, List.set_cons_zero, List.set_cons_succ]
        refine wpTill_take0 (i := 17) (oi := ⟨some 20, _, _, _, _, _⟩) (v := ?_) rfl (by kernel_rfl) (fun _ _ _ h => h) (Or.inl ⟨by rfl, ?_⟩) (fun _ => hHeld) ?_
        rotate_left
        · intro w hSw
          (try dsimp only at hSw)
          go_simp
          try with_reducible rfl
        try simp only [Act.put, List.setIfInBounds_toArray, List.set_cons_zero, List.set_cons_succ]
        refine wpTill_ready (rs := [18]) (by kernel_rfl) (by simp) ?_
        refine AllTill.consD (o := ⟨none, _, _, _, _, _⟩) rfl (by kernel_rfl) (fun K hK => ?_) AllTill.nil
        rw [if_pos (show Region.wanted _ _ = true from rfl)]
        refine wp_store_row 29 (.tmp 2) (.tmp 20) rfl _ _ rfl rfl 29 _ (by exact z5) (by rw [sizePm]; rfl) (by rfl) (by simp [Value.oneCell']) ?_
        refine hK.out _ _ ?_
        clear hK K
        try simp only [Act.put, List.setIfInBounds_toArray, List.set_cons_zero, List.set_cons_succ]
        refine wpTill_done (by kernel_rfl) ?_ _
        go_wp2_with fail
        go_meet
        case rel => exact ⟨_, rfl, Nat.le_refl _, setRow_heap _ _ _ _ _ _ z5, setRow_below1 HB5.out (Nat.le_refl _)⟩
      refine AllTill.cons (o := ⟨some 8, _, _, _, _, _⟩) rfl (fun K hK => ?_) ?_
      · refine step_fresh (enc := encU) (E := 25) rfl [3, 40, 200, 9999] #[.int .u64 3, .int .u64 40, .int .u64 200, .int .u64 9999] rfl (by simp) (by kernel_rfl) ?_
        intro W5 v5 g5 f5 hg5 hx5
        obtain ⟨o5, c5, rfl, _, _⟩ := f5.shape
        obtain ⟨q5, r5, rfl, l5, e5, _⟩ := f5.el1 (f := fun n : Nat => Value.int .u64 n) (fun _ => rfl) ha2
        obtain rfl := Option.some.inj r5
        clear r5 f5 hg5
        have e11 := cell_keep hx5 l11 e11
        have l11 := Nat.lt_of_lt_of_le l11 hx5.size
        have HB5 := Lib.hid (below_call HB11.out HB11.out.size hx5)
        have z5 := below_keeps hx5 z11 (heap_lt z11)
        refine hK.out _ _ (by exact e11) (fun hHeld => ?_)
        clear hK K
        try simp only [Act.put, List.setIfInBounds_toArray, List.set_cons_zero, List.set_cons_succ]
        refine wpTill_more (S' := fun w' => (w'.cell? ⟨g11, i3, none⟩ = some (.int .u64 a3)) ∧ w'.cell? ⟨g5, i2, none⟩ = some (.int .u64 a2)) (fun _ h => h.1) ?_
        replace hHeld : (W5.cell? ⟨g11, i3, none⟩ = some (.int .u64 a3)) ∧ W5.cell? ⟨g5, i2, none⟩ = some (.int .u64 a2) := ⟨e11, e5⟩
        refine wpTill_take0 (i := 9) (oi := ⟨some 12, _, _, _, _, _⟩) (v := ?_) rfl (by kernel_rfl) (fun _ _ _ h => h) (Or.inl ⟨by rfl, ?_⟩) (fun _ => hHeld) ?_
        rotate_left
        · intro w hSw
          (try dsimp only at hSw)
          go_simp
          try with_reducible rfl
        try simp only [Act.put, List.setIfInBounds_toArray, List.set_cons_zero, List.set_cons_succ]
        refine wpTill_take (i := 10) (oi := ⟨some 13, _, _, _, _, _⟩) (v := ?_) rfl (by kernel_rfl) (fun _ _ _ h => h) (Or.inl ⟨by rfl, ?_⟩) (by exact hHeld) ?_
        rotate_left
        · intro w hSw
          (try dsimp only at hSw)
          go_simp
          try with_reducible rfl
        try simp only [Act.put, List.setIfInBounds_toArray, List.set_cons_zero, List.set_cons_succ]
        refine wpTill_ready (rs := [0]) (by kernel_rfl) (by simp) ?_
        refine AllTill.cons (o := ⟨some 3, _, _, _, _, _⟩) rfl (fun K hK => ?_) AllTill.nil
        refine step_fresh (enc := encU) (E := 25) rfl [5, 60, 300, 100000] #[.int .u64 5, .int .u64 60, .int .u64 300, .int .u64 100000] rfl (by simp) (by kernel_rfl) ?_
        intro W0 v0 g0 f0 hg0 hx0
        obtain ⟨o0, c0, rfl, _, _⟩ := f0.shape
        obtain ⟨q0, r0, rfl, l0, e0, _⟩ := f0.el1 (f := fun n : Nat => Value.int .u64 n) (fun _ => rfl) ha1
        obtain rfl := Option.some.inj r0
        clear r0 f0 hg0
        have e11 := cell_keep hx0 l11 e11
        have e5 := cell_keep hx0 l5 e5
        have l11 := Nat.lt_of_lt_of_le l11 hx0.size
        have l5 := Nat.lt_of_lt_of_le l5 hx0.size
        have HB0 := Lib.hid (below_call HB5.out HB5.out.size hx0)
        have z0 := below_keeps hx0 z5 (heap_lt z5)
        refine hK.out _ _ (by exact ⟨e11, e5⟩) (fun hHeld => ?_)
        clear hK K
        try simp only [Act.put, List.setIfInBounds_toArray, List.set_cons_zero, List.set_cons_succ]
        refine wpTill_more (S' := fun w' => ((w'.cell? ⟨g11, i3, none⟩ = some (.int .u64 a3)) ∧ w'.cell? ⟨g5, i2, none⟩ = some (.int .u64 a2)) ∧ w'.cell? ⟨g0, i1, none⟩ = some (.int .u64 a1)) (fun _ h => h.1) ?_
        replace hHeld : ((W0.cell? ⟨g11, i3, none⟩ = some (.int .u64 a3)) ∧ W0.cell? ⟨g5, i2, none⟩ = some (.int .u64 a2)) ∧ W0.cell? ⟨g0, i1, none⟩ = some (.int .u64 a1) := ⟨⟨e11, e5⟩, e0⟩
        refine wpTill_take0 (i := 3) (oi := ⟨some 6, _, _, _, _, _⟩) (v := ?_) rfl (by kernel_rfl) (fun _ _ _ h => h) (Or.inl ⟨by rfl, ?_⟩) (fun _ => hHeld) ?_
        rotate_left
        · intro w hSw
          (try dsimp only at hSw)
          go_simp
          try with_reducible rfl
        try simp only [Act.put, List.setIfInBounds_toArray, List.set_cons_zero, List.set_cons_succ]
        refine wpTill_take (i := 4) (oi := ⟨some 7, _, _, _, _, _⟩) (v := ?_) rfl (by kernel_rfl) (fun _ _ _ h => h) (Or.inl ⟨by rfl, ?_⟩) (by exact hHeld) ?_
        rotate_left
        · intro w hSw
          (try dsimp only at hSw)
          go_simp
          try with_reducible rfl
        try simp only [Act.put, List.setIfInBounds_toArray, List.set_cons_zero, List.set_cons_succ]
        refine wpTill_take0 (i := 17) (oi := ⟨some 20, _, _, _, _, _⟩) (v := ?_) rfl (by kernel_rfl) (fun _ _ _ h => h) (Or.inl ⟨by rfl, ?_⟩) (fun _ => hHeld) ?_
        rotate_left
        · intro w hSw
          (try dsimp only at hSw)
          go_simp
          try with_reducible rfl
        try simp only [Act.put, List.setIfInBounds_toArray, List.set_cons_zero, List.set_cons_succ]
        refine wpTill_ready (rs := [18]) (by kernel_rfl) (by simp) ?_
        refine AllTill.consD (o := ⟨none, _, _, _, _, _⟩) rfl (by kernel_rfl) (fun K hK => ?_) AllTill.nil
        rw [if_pos (show Region.wanted _ _ = true from rfl)]
        refine wp_store_row 29 (.tmp 2) (.tmp 20) rfl _ _ rfl rfl 29 _ (by exact z0) (by rw [sizePm]; rfl) (by rfl) (by simp [Value.oneCell']) ?_
        refine hK.out _ _ ?_
        clear hK K
        try simp only [Act.put, List.setIfInBounds_toArray, List.set_cons_zero, List.set_cons_succ]
        refine wpTill_done (by kernel_rfl) ?_ _
        go_wp2_with fail
        go_meet
        case rel => exact ⟨_, rfl, Nat.le_refl _, setRow_heap _ _ _ _ _ _ z0, setRow_below1 HB0.out (Nat.le_refl _)⟩
      exact AllTill.nil
    exact AllTill.nil
  case rest =>
    obtain ⟨y, rfl, hy, hk, hb⟩ := hcut
    generalize wc = w1 at *
    have HB := Lib.hid hb
    have HK := Lib.hid hk
    clear hb hk
    go_wp2_with fail
    refine bodyPost_ret (v := .agg (encPm ⟨0, a1, a2, a3, 0, 0, 0, 0, 0, 0, 0, 0⟩).toArray) ?_ rfl ⟨rfl, HB.out⟩
    exact results_cell_row rfl _ _ y 29 _ (0, 0) _ rfl HK.out Try.underlying29 rfl (by rw [sizePm]; rfl)
end Go.Proofs.Ytfdgamlakfkekaa
