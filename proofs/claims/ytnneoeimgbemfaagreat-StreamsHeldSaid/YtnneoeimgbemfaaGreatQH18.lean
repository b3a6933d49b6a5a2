/- DERIVED. narthexlaw18's params (printed by mkstpar.py). -/
import Derived.Laws.ResultCell
import Derived.Laws.Rows
import Derived.Test.YtnneoeimgbemfaaGreatRows
import Derived.Test.YtnneoeimgbemfaaGreatQH2
import Derived.Test.YtnneoeimgbemfaaGreatQH3
import Derived.Test.YtnneoeimgbemfaaGreatQH9
import Derived.Test.YtnneoeimgbemfaaGreatQH10
import Derived.Test.YtnneoeimgbemfaaGreatQH12
import Derived.Test.YtnneoeimgbemfaaGreatQH16
import Derived.Test.YtnneoeimgbemfaaGreatQH17
set_option linter.all false
namespace Go.Proofs.YtnneoeimgbemfaaGreat
open Go.RowKit

def pmN (n : Nat) : Pm := ⟨0, [5, 60, 300, 100000].getD (n % 4) 0, [3, 40, 200, 9999].getD (n / 4 % 4) 0, [0, 1, 3, 99].getD (n / 16 % 4) 0, 0, 0, 0, 0, 0, 0, 0, 0⟩
theorem and3 : ∀ n : Fin 64, bits .and .i64 (n.val : Int) 3 = ((n.val % 4 : Nat) : Int) := by decide
theorem results_cell1 {fn : Func} {p : Tmp} {ty : TypeId} (h : fn.results = #[.cell p ty]) (tmps : Array Value) (P : Program) (w : World) :
    (results fn tmps).run P w = ((asAddr (tmps.getD p undef)).run P w).andThen fun a w1 => (loadVar ty a).run P w1 := by
  simp only [results, h]
  simp [Sem.run_bind, Result.andThen]
theorem setRow_below1 {B : Nat} {a w : World} {g : Nat} {cs : Array Value} (h : Below B a w) (hg : B ≤ g) : Below B a (w.setRow g cs) :=
  h.trans ⟨rfl, rfl, rfl, by simp, fun k hk => setRow_other w g k cs (by omega)⟩
theorem getD_at {l : List Nat} {i : Nat} (h : i < l.length) : l[i]? = some (l.getD i 0) := by
  rw [List.getD_eq_getElem?_getD, List.getElem?_eq_getElem h]
  rfl
set_option maxRecDepth 100000 in
set_option maxHeartbeats 2000000 in
theorem params_any (n : Nat) (hn : n < 64) (w : World) :
    Calls Tryz.prog 18 #[.int .i64 n] w fun e w' => e = .returned (.agg (encPm (pmN n)).toArray) ∧ Below w.heap.size w w' := by
  obtain ⟨m2, hm2⟩ : ∃ m, n / 4 = m := ⟨_, rfl⟩
  obtain ⟨m3, hm3⟩ : ∃ m, n / 16 = m := ⟨_, rfl⟩
  have s2 : (n : Int) / 4 = (m2 : Int) := by omega
  have s3 : (n : Int) / 16 = (m3 : Int) := by omega
  have b1 := and3 ⟨n, hn⟩
  have b2 := and3 ⟨m2, by omega⟩
  have b3 := and3 ⟨m3, by omega⟩
  simp only at b1 b2 b3
  obtain ⟨i1, hi1⟩ : ∃ i, n % 4 = i := ⟨_, rfl⟩
  obtain ⟨i2, hi2⟩ : ∃ i, m2 % 4 = i := ⟨_, rfl⟩
  obtain ⟨i3, hi3⟩ : ∃ i, m3 % 4 = i := ⟨_, rfl⟩
  rw [hi1] at b1
  rw [hi2, ← s2] at b2
  rw [hi3, ← s3] at b3
  clear s2 s3
  have l1 : i1 < 4 := by omega
  have l2 : i2 < 4 := by omega
  have l3 : i3 < 4 := by omega
  have k1 : (i1 : Int) < 4 := by omega
  have k2 : (i2 : Int) < 4 := by omega
  have k3 : (i3 : Int) < 4 := by omega
  obtain ⟨a1, ha1⟩ : ∃ a, [5, 60, 300, 100000].getD i1 0 = a := ⟨_, rfl⟩
  obtain ⟨a2, ha2⟩ : ∃ a, [3, 40, 200, 9999].getD i2 0 = a := ⟨_, rfl⟩
  obtain ⟨a3, ha3⟩ : ∃ a, [0, 1, 3, 99].getD i3 0 = a := ⟨_, rfl⟩
  have hpm : pmN n = ⟨0, a1, a2, a3, 0, 0, 0, 0, 0, 0, 0, 0⟩ := by unfold pmN; rw [hm2, hm3, hi1, hi2, hi3, ha1, ha2, ha3]
  rw [hpm]
  replace ha1 : [5, 60, 300, 100000][i1]? = some a1 := by rw [getD_at (by exact l1), ha1]
  replace ha2 : [3, 40, 200, 9999][i2]? = some a2 := by rw [getD_at (by exact l2), ha2]
  replace ha3 : [0, 1, 3, 99][i3]? = some a3 := by rw [getD_at (by exact l3), ha3]
  have HBA := Lib.hid (((Below.refl w.heap.size w).alloc (Nat.le_refl _) (.cells #[.int .u64 0, .int .u64 0, .int .u64 0, .int .u64 0, .int .u8 0, .int .u8 0, .int .u8 0, .int .u8 0, .int .u8 0, .int .u8 0, .int .u8 0, .int .u8 0] 60)).drew)
  have z := show (w.alloc (.cells #[.int .u64 0, .int .u64 0, .int .u64 0, .int .u64 0, .int .u8 0, .int .u8 0, .int .u8 0, .int .u8 0, .int .u8 0, .int .u8 0, .int .u8 0, .int .u8 0] 60)).drew.heap[w.heap.size]? = some (.cells #[.int .u64 0, .int .u64 0, .int .u64 0, .int .u64 0, .int .u8 0, .int .u8 0, .int .u8 0, .int .u8 0, .int .u8 0, .int .u8 0, .int .u8 0, .int .u8 0] 60 (0, 0)) from alloc_at _ _
  clear hpm hm2 hm3 hi1 hi2 hi3
  go_enter Tryz.func18, Tryz.ntmps18
  go_upto_region 1 with fail
  go_cut [2] (fun v wx => ∃ y, v = .pointer (some ⟨y, 0, none⟩) ∧ w.heap.size ≤ y ∧ wx.heap[y]? = some (.cells (encPm ⟨0, a1, a2, a3, 0, 0, 0, 0, 0, 0, 0, 0⟩).toArray 60 (0, 0)) ∧ Below w.heap.size w wx)
  case first =>
    refine wp_region_till (S := fun _ => True) [18] (by kernel_rfl) (trivial) (fun hHeld => ?_)
    refine wpTill_take0 (i := 1) (oi := ⟨some 4, _, _, _, _, _⟩) (v := ?_) rfl (by kernel_rfl) (fun _ _ _ h => h) (Or.inl ⟨by rfl, ?_⟩) (fun _ => hHeld) ?_
    rotate_left
    · intro w hSw
      (try dsimp only at hSw)
      go_simp
      try with_reducible rfl
    try simp only [Act.put, List.setIfInBounds_toArray, List.set_cons_zero, List.set_cons_succ]
    refine wpTill_take0 (i := 2) (oi := ⟨some 5, _, _, _, _, _⟩) (v := ?_) rfl (by kernel_rfl) (fun _ _ _ h => h) (Or.inl ⟨by rfl, ?_⟩) (fun _ => hHeld) ?_
    rotate_left
    · intro w hSw
      (try dsimp only at hSw)
      go_simp
      try with_reducible rfl
    try simp only [Act.put, List.setIfInBounds_toArray, List.set_cons_zero, List.set_cons_succ]
    refine wpTill_take0 (i := 6) (oi := ⟨some 9, _, _, _, _, _⟩) (v := ?_) rfl (by kernel_rfl) (fun _ _ _ h => h) (Or.inl ⟨by rfl, ?_⟩) (fun _ => hHeld) ?_
    rotate_left
    · intro w hSw
      (try dsimp only at hSw)
      go_simp
      try with_reducible rfl
    try simp only [Act.put, List.setIfInBounds_toArray, List.set_cons_zero, List.set_cons_succ]
    refine wpTill_take0 (i := 7) (oi := ⟨some 10, _, _, _, _, _⟩) (v := ?_) rfl (by kernel_rfl) (fun _ _ _ h => h) (Or.inl ⟨by rfl, ?_⟩) (fun _ => hHeld) ?_
    rotate_left
    · intro w hSw
      (try dsimp only at hSw)
      go_simp
      try with_reducible rfl
    try simp only [Act.put, List.setIfInBounds_toArray, List.set_cons_zero, List.set_cons_succ]
    refine wpTill_take0 (i := 8) (oi := ⟨some 11, _, _, _, _, _⟩) (v := ?_) rfl (by kernel_rfl) (fun _ _ _ h => h) (Or.inl ⟨by rfl, ?_⟩) (fun _ => hHeld) ?_
    rotate_left
    · intro w hSw
      (try dsimp only at hSw)
      go_simp
      try with_reducible rfl
    try simp only [Act.put, List.setIfInBounds_toArray, List.set_cons_zero, List.set_cons_succ]
    refine wpTill_take0 (i := 12) (oi := ⟨some 15, _, _, _, _, _⟩) (v := ?_) rfl (by kernel_rfl) (fun _ _ _ h => h) (Or.inl ⟨by rfl, ?_⟩) (fun _ => hHeld) ?_
    rotate_left
    · intro w hSw
      (try dsimp only at hSw)
      go_simp
      try with_reducible rfl
    try simp only [Act.put, List.setIfInBounds_toArray, List.set_cons_zero, List.set_cons_succ]
    refine wpTill_take0 (i := 13) (oi := ⟨some 16, _, _, _, _, _⟩) (v := ?_) rfl (by kernel_rfl) (fun _ _ _ h => h) (Or.inl ⟨by rfl, ?_⟩) (fun _ => hHeld) ?_
    rotate_left
    · intro w hSw
      (try dsimp only at hSw)
      go_simp
      try with_reducible rfl
    try simp only [Act.put, List.setIfInBounds_toArray, List.set_cons_zero, List.set_cons_succ]
    refine wpTill_take0 (i := 14) (oi := ⟨some 17, _, _, _, _, _⟩) (v := ?_) rfl (by kernel_rfl) (fun _ _ _ h => h) (Or.inl ⟨by rfl, ?_⟩) (fun _ => hHeld) ?_
    rotate_left
    · intro w hSw
      (try dsimp only at hSw)
      go_simp
      try with_reducible rfl
    try simp only [Act.put, List.setIfInBounds_toArray, List.set_cons_zero, List.set_cons_succ]
    refine wpTill_ready (rs := [0, 5, 11]) (by kernel_rfl) (by simp) ?_
    refine AllTill.cons (o := ⟨some 3, _, _, _, _, _⟩) rfl (fun K hK => ?_) ?_
    · refine step_fresh (enc := encU) (E := 27) rfl [5, 60, 300, 100000] #[.int .u64 5, .int .u64 60, .int .u64 300, .int .u64 100000] rfl (by simp) (by kernel_rfl) ?_
      intro W0 v0 g0 f0 hg0 hx0
      obtain ⟨o0, c0, rfl, _, _⟩ := f0.shape
      obtain ⟨q0, r0, rfl, l0, e0, _⟩ := f0.el1 (f := fun n : Nat => Value.int .u64 n) (fun _ => rfl) ha1
      obtain rfl := Option.some.inj r0
      clear r0 f0 hg0
      have HB0 := Lib.hid (below_call HBA.out HBA.out.size hx0)
      have z0 := below_keeps hx0 z (heap_lt z)
      refine hK.out _ _ (by exact trivial) (fun hHeld => ?_)
      clear hK K
      try simp only [Act.put, List.setIfInBounds_toArray, List.set_cons_zero, List.set_cons_succ]
      refine wpTill_more (S' := fun w' => w'.cell? ⟨g0, i1, none⟩ = some (.int .u64 a1)) (fun _ h => trivial) ?_
      replace hHeld : W0.cell? ⟨g0, i1, none⟩ = some (.int .u64 a1) := e0
      refine wpTill_take0 (i := 3) (oi := ⟨some 6, _, _, _, _, _⟩) (v := ?_) rfl (by kernel_rfl) (fun _ _ _ h => h) (Or.inl ⟨by rfl, ?_⟩) (fun _ => hHeld) ?_
      rotate_left
      · intro w hSw
        (try dsimp only at hSw)
        go_simp
        try with_reducible rfl
      try simp only [Act.put, List.setIfInBounds_toArray, List.set_cons_zero, List.set_cons_succ]
      refine wpTill_take (i := 4) (oi := ⟨some 7, _, _, _, _, _⟩) (v := ?_) rfl (by kernel_rfl) (fun _ _ _ h => h) (Or.inl ⟨by rfl, ?_⟩) (by exact hHeld) ?_
      rotate_left
      · intro w hSw
        (try dsimp only at hSw)
        go_simp
        try with_reducible rfl
      try simp only [Act.put, List.setIfInBounds_toArray, List.set_cons_zero, List.set_cons_succ]
      refine wpTill_ready (rs := [5, 11]) (by kernel_rfl) (by simp) ?_
      refine AllTill.cons (o := ⟨some 8, _, _, _, _, _⟩) rfl (fun K hK => ?_) ?_
      · refine step_fresh (enc := encU) (E := 27) rfl [3, 40, 200, 9999] #[.int .u64 3, .int .u64 40, .int .u64 200, .int .u64 9999] rfl (by simp) (by kernel_rfl) ?_
        intro W5 v5 g5 f5 hg5 hx5
        obtain ⟨o5, c5, rfl, _, _⟩ := f5.shape
        obtain ⟨q5, r5, rfl, l5, e5, _⟩ := f5.el1 (f := fun n : Nat => Value.int .u64 n) (fun _ => rfl) ha2
        obtain rfl := Option.some.inj r5
        clear r5 f5 hg5
        have e0 := cell_keep hx5 l0 e0
        have l0 := Nat.lt_of_lt_of_le l0 hx5.size
        have HB5 := Lib.hid (below_call HB0.out HB0.out.size hx5)
        have z5 := below_keeps hx5 z0 (heap_lt z0)
        refine hK.out _ _ (by exact e0) (fun hHeld => ?_)
        clear hK K
        try simp only [Act.put, List.setIfInBounds_toArray, List.set_cons_zero, List.set_cons_succ]
        refine wpTill_more (S' := fun w' => (w'.cell? ⟨g0, i1, none⟩ = some (.int .u64 a1)) ∧ w'.cell? ⟨g5, i2, none⟩ = some (.int .u64 a2)) (fun _ h => h.1) ?_
        replace hHeld : (W5.cell? ⟨g0, i1, none⟩ = some (.int .u64 a1)) ∧ W5.cell? ⟨g5, i2, none⟩ = some (.int .u64 a2) := ⟨e0, e5⟩
        refine wpTill_take0 (i := 9) (oi := ⟨some 12, _, _, _, _, _⟩) (v := ?_) rfl (by kernel_rfl) (fun _ _ _ h => h) (Or.inl ⟨by rfl, ?_⟩) (fun _ => hHeld) ?_
        rotate_left
        · intro w hSw
          (try dsimp only at hSw)
          go_simp
          try with_reducible rfl
        try simp only [Act.put, List.setIfInBounds_toArray, List.set_cons_zero, List.set_cons_succ]
        refine wpTill_take (i := 10) (oi := ⟨some 13, _, _, _, _, _⟩) (v := ?_) rfl (by kernel_rfl) (fun _ _ _ h => h) (Or.inl ⟨by rfl, ?_⟩) (by exact hHeld) ?_
        rotate_left
        · intro w hSw
          (try dsimp only at hSw)
          go_simp
          try with_reducible rfl
        try simp only [Act.put, List.setIfInBounds_toArray, List.set_cons_zero, List.set_cons_succ]
        refine wpTill_ready (rs := [11]) (by kernel_rfl) (by simp) ?_
        refine AllTill.cons (o := ⟨some 14, _, _, _, _, _⟩) rfl (fun K hK => ?_) AllTill.nil
        refine step_fresh (enc := encU) (E := 27) rfl [0, 1, 3, 99] #[.int .u64 0, .int .u64 1, .int .u64 3, .int .u64 99] rfl (by simp) (by kernel_rfl) ?_
        intro W11 v11 g11 f11 hg11 hx11
        obtain ⟨o11, c11, rfl, _, _⟩ := f11.shape
        obtain ⟨q11, r11, rfl, l11, e11, _⟩ := f11.el1 (f := fun n : Nat => Value.int .u64 n) (fun _ => rfl) ha3
        obtain rfl := Option.some.inj r11
        clear r11 f11 hg11
        have e0 := cell_keep hx11 l0 e0
        have e5 := cell_keep hx11 l5 e5
        have l0 := Nat.lt_of_lt_of_le l0 hx11.size
        have l5 := Nat.lt_of_lt_of_le l5 hx11.size
        have HB11 := Lib.hid (below_call HB5.out HB5.out.size hx11)
        have z11 := below_keeps hx11 z5 (heap_lt z5)
        refine hK.out _ _ (by exact ⟨e0, e5⟩) (fun hHeld => ?_)
        clear hK K
        try simp only [Act.put, List.setIfInBounds_toArray, List.set_cons_zero, List.set_cons_succ]
        refine wpTill_more (S' := fun w' => ((w'.cell? ⟨g0, i1, none⟩ = some (.int .u64 a1)) ∧ w'.cell? ⟨g5, i2, none⟩ = some (.int .u64 a2)) ∧ w'.cell? ⟨g11, i3, none⟩ = some (.int .u64 a3)) (fun _ h => h.1) ?_
        replace hHeld : ((W11.cell? ⟨g0, i1, none⟩ = some (.int .u64 a1)) ∧ W11.cell? ⟨g5, i2, none⟩ = some (.int .u64 a2)) ∧ W11.cell? ⟨g11, i3, none⟩ = some (.int .u64 a3) := ⟨⟨e0, e5⟩, e11⟩
        refine wpTill_take0 (i := 15) (oi := ⟨some 18, _, _, _, _, _⟩) (v := ?_) rfl (by kernel_rfl) (fun _ _ _ h => h) (Or.inl ⟨by rfl, ?_⟩) (fun _ => hHeld) ?_
        rotate_left
        · intro w hSw
          (try dsimp only at hSw)
          go_simp
          try with_reducible rfl
        try simp only [Act.put, List.setIfInBounds_toArray, List.set_cons_zero, List.set_cons_succ]
        refine wpTill_take (i := 16) (oi := ⟨some 19, _, _, _, _, _⟩) (v := ?_) rfl (by kernel_rfl) (fun _ _ _ h => h) (Or.inl ⟨by rfl, ?_⟩) (by exact hHeld) ?_
        rotate_left
        · intro w hSw
          (try dsimp only at hSw)
          go_simp
          try with_reducible rfl
        try simp only [Act.put, List.setIfInBounds_toArray, List.set_cons_zero, List.set_cons_succ]
        refine wpTill_take0 (i := 17) (oi := ⟨some 20, _, _, _, _, _⟩) (v := ?_) rfl (by kernel_rfl) (fun _ _ _ h => h) (Or.inl ⟨by rfl, ?_⟩) (fun _ => hHeld) ?_
        rotate_left
        · intro w hSw
          (try dsimp only at hSw)
          go_simp
          try with_reducible rfl
        try simp only [Act.put, List.setIfInBounds_toArray, List.set_cons_zero, List.set_cons_succ]
        refine wpTill_ready (rs := [18]) (by kernel_rfl) (by simp) ?_
        refine AllTill.consD (o := ⟨none, _, _, _, _, _⟩) rfl (by kernel_rfl) (fun K hK => ?_) AllTill.nil
        rw [if_pos (show Region.wanted _ _ = true from rfl)]
        refine wp_store_row 60 (.tmp 2) (.tmp 20) rfl _ _ rfl rfl 60 _ (by exact z11) (by rw [sizePm]; rfl) (by rfl) (by simp [Value.oneCell']) ?_
        refine hK.out _ _ ?_
        clear hK K
        try simp only [Act.put, List.setIfInBounds_toArray, List.set_cons_zero, List.set_cons_succ]
        refine wpTill_done (by kernel_rfl) ?_ _
        go_wp2_with fail
        go_meet
        case rel => exact ⟨_, rfl, Nat.le_refl _, setRow_heap _ _ _ _ _ _ z11, setRow_below1 HB11.out (Nat.le_refl _)⟩
      refine AllTill.cons (o := ⟨some 14, _, _, _, _, _⟩) rfl (fun K hK => ?_) ?_
      · refine step_fresh (enc := encU) (E := 27) rfl [0, 1, 3, 99] #[.int .u64 0, .int .u64 1, .int .u64 3, .int .u64 99] rfl (by simp) (by kernel_rfl) ?_
        intro W11 v11 g11 f11 hg11 hx11
        obtain ⟨o11, c11, rfl, _, _⟩ := f11.shape
        obtain ⟨q11, r11, rfl, l11, e11, _⟩ := f11.el1 (f := fun n : Nat => Value.int .u64 n) (fun _ => rfl) ha3
        obtain rfl := Option.some.inj r11
        clear r11 f11 hg11
        have e0 := cell_keep hx11 l0 e0
        have l0 := Nat.lt_of_lt_of_le l0 hx11.size
        have HB11 := Lib.hid (below_call HB0.out HB0.out.size hx11)
        have z11 := below_keeps hx11 z0 (heap_lt z0)
        refine hK.out _ _ (by exact e0) (fun hHeld => ?_)
        clear hK K
        try simp only [Act.put, List.setIfInBounds_toArray, List.set_cons_zero, List.set_cons_succ]
        refine wpTill_more (S' := fun w' => (w'.cell? ⟨g0, i1, none⟩ = some (.int .u64 a1)) ∧ w'.cell? ⟨g11, i3, none⟩ = some (.int .u64 a3)) (fun _ h => h.1) ?_
        replace hHeld : (W11.cell? ⟨g0, i1, none⟩ = some (.int .u64 a1)) ∧ W11.cell? ⟨g11, i3, none⟩ = some (.int .u64 a3) := ⟨e0, e11⟩
        refine wpTill_take0 (i := 15) (oi := ⟨some 18, _, _, _, _, _⟩) (v := ?_) rfl (by kernel_rfl) (fun _ _ _ h => h) (Or.inl ⟨by rfl, ?_⟩) (fun _ => hHeld) ?_
        rotate_left
        · intro w hSw
          (try dsimp only at hSw)
          go_simp
          try with_reducible rfl
        try simp only [Act.put, List.setIfInBounds_toArray, List.set_cons_zero, List.set_cons_succ]
        refine wpTill_take (i := 16) (oi := ⟨some 19, _, _, _, _, _⟩) (v := ?_) rfl (by kernel_rfl) (fun _ _ _ h => h) (Or.inl ⟨by rfl, ?_⟩) (by exact hHeld) ?_
        rotate_left
        · intro w hSw
          (try dsimp only at hSw)
          go_simp
          try with_reducible rfl
        try simp only [Act.put, List.setIfInBounds_toArray, List.set_cons_zero, List.set_cons_succ]
        refine wpTill_ready (rs := [5]) (by kernel_rfl) (by simp) ?_
        refine AllTill.cons (o := ⟨some 8, _, _, _, _, _⟩) rfl (fun K hK => ?_) AllTill.nil
        refine step_fresh (enc := encU) (E := 27) rfl [3, 40, 200, 9999] #[.int .u64 3, .int .u64 40, .int .u64 200, .int .u64 9999] rfl (by simp) (by kernel_rfl) ?_
        intro W5 v5 g5 f5 hg5 hx5
        obtain ⟨o5, c5, rfl, _, _⟩ := f5.shape
        obtain ⟨q5, r5, rfl, l5, e5, _⟩ := f5.el1 (f := fun n : Nat => Value.int .u64 n) (fun _ => rfl) ha2
        obtain rfl := Option.some.inj r5
        clear r5 f5 hg5
        have e0 := cell_keep hx5 l0 e0
        have e11 := cell_keep hx5 l11 e11
        have l0 := Nat.lt_of_lt_of_le l0 hx5.size
        have l11 := Nat.lt_of_lt_of_le l11 hx5.size
        have HB5 := Lib.hid (below_call HB11.out HB11.out.size hx5)
        have z5 := below_keeps hx5 z11 (heap_lt z11)
        refine hK.out _ _ (by exact ⟨e0, e11⟩) (fun hHeld => ?_)
        clear hK K
        try simp only [Act.put, List.setIfInBounds_toArray, List.set_cons_zero, List.set_cons_succ]
        refine wpTill_more (S' := fun w' => ((w'.cell? ⟨g0, i1, none⟩ = some (.int .u64 a1)) ∧ w'.cell? ⟨g11, i3, none⟩ = some (.int .u64 a3)) ∧ w'.cell? ⟨g5, i2, none⟩ = some (.int .u64 a2)) (fun _ h => h.1) ?_
        replace hHeld : ((W5.cell? ⟨g0, i1, none⟩ = some (.int .u64 a1)) ∧ W5.cell? ⟨g11, i3, none⟩ = some (.int .u64 a3)) ∧ W5.cell? ⟨g5, i2, none⟩ = some (.int .u64 a2) := ⟨⟨e0, e11⟩, e5⟩
        refine wpTill_take0 (i := 9) (oi := ⟨some 12, _, _, _, _, _⟩) (v := ?_) rfl (by kernel_rfl) (fun _ _ _ h => h) (Or.inl ⟨by rfl, ?_⟩) (fun _ => hHeld) ?_
        rotate_left
        · intro w hSw
          (try dsimp only at hSw)
          go_simp
          try with_reducible rfl
        try simp only [Act.put, List.setIfInBounds_toArray, List.set_cons_zero, List.set_cons_succ]
        refine wpTill_take (i := 10) (oi := ⟨some 13, _, _, _, _, _⟩) (v := ?_) rfl (by kernel_rfl) (fun _ _ _ h => h) (Or.inl ⟨by rfl, ?_⟩) (by exact hHeld) ?_
        rotate_left
        · intro w hSw
          (try dsimp only at hSw)
          go_simp
          try with_reducible rfl
        try simp only [Act.put, List.setIfInBounds_toArray, List.set_cons_zero, List.set_cons_succ]
        refine wpTill_take0 (i := 17) (oi := ⟨some 20, _, _, _, _, _⟩) (v := ?_) rfl (by kernel_rfl) (fun _ _ _ h => h) (Or.inl ⟨by rfl, ?_⟩) (fun _ => hHeld) ?_
        rotate_left
        · intro w hSw
          (try dsimp only at hSw)
          go_simp
          try with_reducible rfl
        try simp only [Act.put, List.setIfInBounds_toArray, List.set_cons_zero, List.set_cons_succ]
        refine wpTill_ready (rs := [18]) (by kernel_rfl) (by simp) ?_
        refine AllTill.consD (o := ⟨none, _, _, _, _, _⟩) rfl (by kernel_rfl) (fun K hK => ?_) AllTill.nil
        rw [if_pos (show Region.wanted _ _ = true from rfl)]
        refine wp_store_row 60 (.tmp 2) (.tmp 20) rfl _ _ rfl rfl 60 _ (by exact z5) (by rw [sizePm]; rfl) (by rfl) (by simp [Value.oneCell']) ?_
        refine hK.out _ _ ?_
        clear hK K
        try simp only [Act.put, List.setIfInBounds_toArray, List.set_cons_zero, List.set_cons_succ]
        refine wpTill_done (by kernel_rfl) ?_ _
        go_wp2_with fail
        go_meet
        case rel => exact ⟨_, rfl, Nat.le_refl _, setRow_heap _ _ _ _ _ _ z5, setRow_below1 HB5.out (Nat.le_refl _)⟩
      exact AllTill.nil
    refine AllTill.cons (o := ⟨some 8, _, _, _, _, _⟩) rfl (fun K hK => ?_) ?_
    · refine step_fresh (enc := encU) (E := 27) rfl [3, 40, 200, 9999] #[.int .u64 3, .int .u64 40, .int .u64 200, .int .u64 9999] rfl (by simp) (by kernel_rfl) ?_
      intro W5 v5 g5 f5 hg5 hx5
      obtain ⟨o5, c5, rfl, _, _⟩ := f5.shape
      obtain ⟨q5, r5, rfl, l5, e5, _⟩ := f5.el1 (f := fun n : Nat => Value.int .u64 n) (fun _ => rfl) ha2
      obtain rfl := Option.some.inj r5
      clear r5 f5 hg5
      have HB5 := Lib.hid (below_call HBA.out HBA.out.size hx5)
      have z5 := below_keeps hx5 z (heap_lt z)
      refine hK.out _ _ (by exact trivial) (fun hHeld => ?_)
      clear hK K
      try simp only [Act.put, List.setIfInBounds_toArray, List.set_cons_zero, List.set_cons_succ]
      refine wpTill_more (S' := fun w' => w'.cell? ⟨g5, i2, none⟩ = some (.int .u64 a2)) (fun _ h => trivial) ?_
      replace hHeld : W5.cell? ⟨g5, i2, none⟩ = some (.int .u64 a2) := e5
      refine wpTill_take0 (i := 9) (oi := ⟨some 12, _, _, _, _, _⟩) (v := ?_) rfl (by kernel_rfl) (fun _ _ _ h => h) (Or.inl ⟨by rfl, ?_⟩) (fun _ => hHeld) ?_
      rotate_left
      · intro w hSw
        (try dsimp only at hSw)
        go_simp
        try with_reducible rfl
      try simp only [Act.put, List.setIfInBounds_toArray, List.set_cons_zero, List.set_cons_succ]
      refine wpTill_take (i := 10) (oi := ⟨some 13, _, _, _, _, _⟩) (v := ?_) rfl (by kernel_rfl) (fun _ _ _ h => h) (Or.inl ⟨by rfl, ?_⟩) (by exact hHeld) ?_
      rotate_left
      · intro w hSw
        (try dsimp only at hSw)
        go_simp
        try with_reducible rfl
      try simp only [Act.put, List.setIfInBounds_toArray, List.set_cons_zero, List.set_cons_succ]
      refine wpTill_ready (rs := [0, 11]) (by kernel_rfl) (by simp) ?_
      refine AllTill.cons (o := ⟨some 3, _, _, _, _, _⟩) rfl (fun K hK => ?_) ?_
      · refine step_fresh (enc := encU) (E := 27) rfl [5, 60, 300, 100000] #[.int .u64 5, .int .u64 60, .int .u64 300, .int .u64 100000] rfl (by simp) (by kernel_rfl) ?_
        intro W0 v0 g0 f0 hg0 hx0
        obtain ⟨o0, c0, rfl, _, _⟩ := f0.shape
        obtain ⟨q0, r0, rfl, l0, e0, _⟩ := f0.el1 (f := fun n : Nat => Value.int .u64 n) (fun _ => rfl) ha1
        obtain rfl := Option.some.inj r0
        clear r0 f0 hg0
        have e5 := cell_keep hx0 l5 e5
        have l5 := Nat.lt_of_lt_of_le l5 hx0.size
        have HB0 := Lib.hid (below_call HB5.out HB5.out.size hx0)
        have z0 := below_keeps hx0 z5 (heap_lt z5)
        refine hK.out _ _ (by exact e5) (fun hHeld => ?_)
        clear hK K
        try simp only [Act.put, List.setIfInBounds_toArray, List.set_cons_zero, List.set_cons_succ]
        refine wpTill_more (S' := fun w' => (w'.cell? ⟨g5, i2, none⟩ = some (.int .u64 a2)) ∧ w'.cell? ⟨g0, i1, none⟩ = some (.int .u64 a1)) (fun _ h => h.1) ?_
        replace hHeld : (W0.cell? ⟨g5, i2, none⟩ = some (.int .u64 a2)) ∧ W0.cell? ⟨g0, i1, none⟩ = some (.int .u64 a1) := ⟨e5, e0⟩
        refine wpTill_take0 (i := 3) (oi := ⟨some 6, _, _, _, _, _⟩) (v := ?_) rfl (by kernel_rfl) (fun _ _ _ h => h) (Or.inl ⟨by rfl, ?_⟩) (fun _ => hHeld) ?_
        rotate_left
        · intro w hSw
          (try dsimp only at hSw)
          go_simp
          try with_reducible rfl
        try simp only [Act.put, List.setIfInBounds_toArray, List.set_cons_zero, List.set_cons_succ]
        refine wpTill_take (i := 4) (oi := ⟨some 7, _, _, _, _, _⟩) (v := ?_) rfl (by kernel_rfl) (fun _ _ _ h => h) (Or.inl ⟨by rfl, ?_⟩) (by exact hHeld) ?_
        rotate_left
        · intro w hSw
          (try dsimp only at hSw)
          go_simp
          try with_reducible rfl
        try simp only [Act.put, List.setIfInBounds_toArray, List.set_cons_zero, List.set_cons_succ]
        refine wpTill_ready (rs := [11]) (by kernel_rfl) (by simp) ?_
        refine AllTill.cons (o := ⟨some 14, _, _, _, _, _⟩) rfl (fun K hK => ?_) AllTill.nil
        refine step_fresh (enc := encU) (E := 27) rfl [0, 1, 3, 99] #[.int .u64 0, .int .u64 1, .int .u64 3, .int .u64 99] rfl (by simp) (by kernel_rfl) ?_
        intro W11 v11 g11 f11 hg11 hx11
        obtain ⟨o11, c11, rfl, _, _⟩ := f11.shape
        obtain ⟨q11, r11, rfl, l11, e11, _⟩ := f11.el1 (f := fun n : Nat => Value.int .u64 n) (fun _ => rfl) ha3
        obtain rfl := Option.some.inj r11
        clear r11 f11 hg11
        have e5 := cell_keep hx11 l5 e5
        have e0 := cell_keep hx11 l0 e0
        have l5 := Nat.lt_of_lt_of_le l5 hx11.size
        have l0 := Nat.lt_of_lt_of_le l0 hx11.size
        have HB11 := Lib.hid (below_call HB0.out HB0.out.size hx11)
        have z11 := below_keeps hx11 z0 (heap_lt z0)
        refine hK.out _ _ (by exact ⟨e5, e0⟩) (fun hHeld => ?_)
        clear hK K
        try simp only [Act.put, List.setIfInBounds_toArray, List.set_cons_zero, List.set_cons_succ]
        refine wpTill_more (S' := fun w' => ((w'.cell? ⟨g5, i2, none⟩ = some (.int .u64 a2)) ∧ w'.cell? ⟨g0, i1, none⟩ = some (.int .u64 a1)) ∧ w'.cell? ⟨g11, i3, none⟩ = some (.int .u64 a3)) (fun _ h => h.1) ?_
        replace hHeld : ((W11.cell? ⟨g5, i2, none⟩ = some (.int .u64 a2)) ∧ W11.cell? ⟨g0, i1, none⟩ = some (.int .u64 a1)) ∧ W11.cell? ⟨g11, i3, none⟩ = some (.int .u64 a3) := ⟨⟨e5, e0⟩, e11⟩
        refine wpTill_take0 (i := 15) (oi := ⟨some 18, _, _, _, _, _⟩) (v := ?_) rfl (by kernel_rfl) (fun _ _ _ h => h) (Or.inl ⟨by rfl, ?_⟩) (fun _ => hHeld) ?_
        rotate_left
        · intro w hSw
          (try dsimp only at hSw)
          go_simp
          try with_reducible rfl
        try simp only [Act.put, List.setIfInBounds_toArray, List.set_cons_zero, List.set_cons_succ]
        refine wpTill_take (i := 16) (oi := ⟨some 19, _, _, _, _, _⟩) (v := ?_) rfl (by kernel_rfl) (fun _ _ _ h => h) (Or.inl ⟨by rfl, ?_⟩) (by exact hHeld) ?_
        rotate_left
        · intro w hSw
          (try dsimp only at hSw)
          go_simp
          try with_reducible rfl
        try simp only [Act.put, List.setIfInBounds_toArray, List.set_cons_zero, List.set_cons_succ]
        refine wpTill_take0 (i := 17) (oi := ⟨some 20, _, _, _, _, _⟩) (v := ?_) rfl (by kernel_rfl) (fun _ _ _ h => h) (Or.inl ⟨by rfl, ?_⟩) (fun _ => hHeld) ?_
        rotate_left
        · intro w hSw
          (try dsimp only at hSw)
          go_simp
          try with_reducible rfl
        try simp only [Act.put, List.setIfInBounds_toArray, List.set_cons_zero, List.set_cons_succ]
        refine wpTill_ready (rs := [18]) (by kernel_rfl) (by simp) ?_
        refine AllTill.consD (o := ⟨none, _, _, _, _, _⟩) rfl (by kernel_rfl) (fun K hK => ?_) AllTill.nil
        rw [if_pos (show Region.wanted _ _ = true from rfl)]
        refine wp_store_row 60 (.tmp 2) (.tmp 20) rfl _ _ rfl rfl 60 _ (by exact z11) (by rw [sizePm]; rfl) (by rfl) (by simp [Value.oneCell']) ?_
        refine hK.out _ _ ?_
        clear hK K
        try simp only [Act.put, List.setIfInBounds_toArray, List.set_cons_zero, List.set_cons_succ]
        refine wpTill_done (by kernel_rfl) ?_ _
        go_wp2_with fail
        go_meet
        case rel => exact ⟨_, rfl, Nat.le_refl _, setRow_heap _ _ _ _ _ _ z11, setRow_below1 HB11.out (Nat.le_refl _)⟩
      refine AllTill.cons (o := ⟨some 14, _, _, _, _, _⟩) rfl (fun K hK => ?_) ?_
      · refine step_fresh (enc := encU) (E := 27) rfl [0, 1, 3, 99] #[.int .u64 0, .int .u64 1, .int .u64 3, .int .u64 99] rfl (by simp) (by kernel_rfl) ?_
        intro W11 v11 g11 f11 hg11 hx11
        obtain ⟨o11, c11, rfl, _, _⟩ := f11.shape
        obtain ⟨q11, r11, rfl, l11, e11, _⟩ := f11.el1 (f := fun n : Nat => Value.int .u64 n) (fun _ => rfl) ha3
        obtain rfl := Option.some.inj r11
        clear r11 f11 hg11
        have e5 := cell_keep hx11 l5 e5
        have l5 := Nat.lt_of_lt_of_le l5 hx11.size
        have HB11 := Lib.hid (below_call HB5.out HB5.out.size hx11)
        have z11 := below_keeps hx11 z5 (heap_lt z5)
        refine hK.out _ _ (by exact e5) (fun hHeld => ?_)
        clear hK K
        try simp only [Act.put, List.setIfInBounds_toArray, List.set_cons_zero, List.set_cons_succ]
        refine wpTill_more (S' := fun w' => (w'.cell? ⟨g5, i2, none⟩ = some (.int .u64 a2)) ∧ w'.cell? ⟨g11, i3, none⟩ = some (.int .u64 a3)) (fun _ h => h.1) ?_
        replace hHeld : (W11.cell? ⟨g5, i2, none⟩ = some (.int .u64 a2)) ∧ W11.cell? ⟨g11, i3, none⟩ = some (.int .u64 a3) := ⟨e5, e11⟩
        refine wpTill_take0 (i := 15) (oi := ⟨some 18, _, _, _, _, _⟩) (v := ?_) rfl (by kernel_rfl) (fun _ _ _ h => h) (Or.inl ⟨by rfl, ?_⟩) (fun _ => hHeld) ?_
        rotate_left
        · intro w hSw
          (try dsimp only at hSw)
          go_simp
          try with_reducible rfl
        try simp only [Act.put, List.setIfInBounds_toArray, List.set_cons_zero, List.set_cons_succ]
        refine wpTill_take (i := 16) (oi := ⟨some 19, _, _, _, _, _⟩) (v := ?_) rfl (by kernel_rfl) (fun _ _ _ h => h) (Or.inl ⟨by rfl, ?_⟩) (by exact hHeld) ?_
        rotate_left
        · intro w hSw
          (try dsimp only at hSw)
          go_simp
          try with_reducible rfl
        try simp only [Act.put, List.setIfInBounds_toArray, List.set_cons_zero, List.set_cons_succ]
        refine wpTill_ready (rs := [0]) (by kernel_rfl) (by simp) ?_
        refine AllTill.cons (o := ⟨some 3, _, _, _, _, _⟩) rfl (fun K hK => ?_) AllTill.nil
        refine step_fresh (enc := encU) (E := 27) rfl [5, 60, 300, 100000] #[.int .u64 5, .int .u64 60, .int .u64 300, .int .u64 100000] rfl (by simp) (by kernel_rfl) ?_
        intro W0 v0 g0 f0 hg0 hx0
        obtain ⟨o0, c0, rfl, _, _⟩ := f0.shape
        obtain ⟨q0, r0, rfl, l0, e0, _⟩ := f0.el1 (f := fun n : Nat => Value.int .u64 n) (fun _ => rfl) ha1
        obtain rfl := Option.some.inj r0
        clear r0 f0 hg0
        have e5 := cell_keep hx0 l5 e5
        have e11 := cell_keep hx0 l11 e11
        have l5 := Nat.lt_of_lt_of_le l5 hx0.size
        have l11 := Nat.lt_of_lt_of_le l11 hx0.size
        have HB0 := Lib.hid (below_call HB11.out HB11.out.size hx0)
        have z0 := below_keeps hx0 z11 (heap_lt z11)
        refine hK.out _ _ (by exact ⟨e5, e11⟩) (fun hHeld => ?_)
        clear hK K
        try simp only [Act.put, List.setIfInBounds_toArray, List.set_cons_zero, List.set_cons_succ]
        refine wpTill_more (S' := fun w' => ((w'.cell? ⟨g5, i2, none⟩ = some (.int .u64 a2)) ∧ w'.cell? ⟨g11, i3, none⟩ = some (.int .u64 a3)) ∧ w'.cell? ⟨g0, i1, none⟩ = some (.int .u64 a1)) (fun _ h => h.1) ?_
        replace hHeld : ((W0.cell? ⟨g5, i2, none⟩ = some (.int .u64 a2)) ∧ W0.cell? ⟨g11, i3, none⟩ = some (.int .u64 a3)) ∧ W0.cell? ⟨g0, i1, none⟩ = some (.int .u64 a1) := ⟨⟨e5, e11⟩, e0⟩
        refine wpTill_take0 (i := 3) (oi := ⟨some 6, _, _, _, _, _⟩) (v := ?_) rfl (by kernel_rfl) (fun _ _ _ h => h) (Or.inl ⟨by rfl, ?_⟩) (fun _ => hHeld) ?_
        rotate_left
        · intro w hSw
          (try dsimp only at hSw)
          go_simp
          try with_reducible rfl
        try simp only [Act.put, List.setIfInBounds_toArray, List.set_cons_zero, List.set_cons_succ]
        refine wpTill_take (i := 4) (oi := ⟨some 7, _, _, _, _, _⟩) (v := ?_) rfl (by kernel_rfl) (fun _ _ _ h => h) (Or.inl ⟨by rfl, ?_⟩) (by exact hHeld) ?_
        rotate_left
        · intro w hSw
          (try dsimp only at hSw)
          go_simp
          try with_reducible rfl
        try simp only [Act.put, List.setIfInBounds_toArray, List.set_cons_zero, List.set_cons_succ]
        refine wpTill_take0 (i := 17) (oi := ⟨some 20, _, _, _, _, _⟩) (v := ?_) rfl (by kernel_rfl) (fun _ _ _ h => h) (Or.inl ⟨by rfl, ?_⟩) (fun _ => hHeld) ?_
        rotate_left
        · intro w hSw
          (try dsimp only at hSw)
          go_simp
          try with_reducible rfl
        try simp only [Act.put, List.setIfInBounds_toArray, List.set_cons_zero, List.set_cons_succ]
        refine wpTill_ready (rs := [18]) (by kernel_rfl) (by simp) ?_
        refine AllTill.consD (o := ⟨none, _, _, _, _, _⟩) rfl (by kernel_rfl) (fun K hK => ?_) AllTill.nil
        rw [if_pos (show Region.wanted _ _ = true from rfl)]
        refine wp_store_row 60 (.tmp 2) (.tmp 20) rfl _ _ rfl rfl 60 _ (by exact z0) (by rw [sizePm]; rfl) (by rfl) (by simp [Value.oneCell']) ?_
        refine hK.out _ _ ?_
        clear hK K
        try simp only [Act.put, List.setIfInBounds_toArray, List.set_cons_zero, List.set_cons_succ]
        refine wpTill_done (by kernel_rfl) ?_ _
        go_wp2_with fail
        go_meet
        case rel => exact ⟨_, rfl, Nat.le_refl _, setRow_heap _ _ _ _ _ _ z0, setRow_below1 HB0.out (Nat.le_refl _)⟩
      exact AllTill.nil
    refine AllTill.cons (o := ⟨some 14, _, _, _, _, _⟩) rfl (fun K hK => ?_) ?_
    · refine step_fresh (enc := encU) (E := 27) rfl [0, 1, 3, 99] #[.int .u64 0, .int .u64 1, .int .u64 3, .int .u64 99] rfl (by simp) (by kernel_rfl) ?_
      intro W11 v11 g11 f11 hg11 hx11
      obtain ⟨o11, c11, rfl, _, _⟩ := f11.shape
      obtain ⟨q11, r11, rfl, l11, e11, _⟩ := f11.el1 (f := fun n : Nat => Value.int .u64 n) (fun _ => rfl) ha3
      obtain rfl := Option.some.inj r11
      clear r11 f11 hg11
      have HB11 := Lib.hid (below_call HBA.out HBA.out.size hx11)
      have z11 := below_keeps hx11 z (heap_lt z)
      refine hK.out _ _ (by exact trivial) (fun hHeld => ?_)
      clear hK K
      try simp only [Act.put, List.setIfInBounds_toArray, List.set_cons_zero, List.set_cons_succ]
      refine wpTill_more (S' := fun w' => w'.cell? ⟨g11, i3, none⟩ = some (.int .u64 a3)) (fun _ h => trivial) ?_
      replace hHeld : W11.cell? ⟨g11, i3, none⟩ = some (.int .u64 a3) := e11
      refine wpTill_take0 (i := 15) (oi := ⟨some 18, _, _, _, _, _⟩) (v := ?_) rfl (by kernel_rfl) (fun _ _ _ h => h) (Or.inl ⟨by rfl, ?_⟩) (fun _ => hHeld) ?_
      rotate_left
      · intro w hSw
        (try dsimp only at hSw)
        go_simp
        try with_reducible rfl
      try simp only [Act.put, List.setIfInBounds_toArray, List.set_cons_zero, List.set_cons_succ]
      refine wpTill_take (i := 16) (oi := ⟨some 19, _, _, _, _, _⟩) (v := ?_) rfl (by kernel_rfl) (fun _ _ _ h => h) (Or.inl ⟨by rfl, ?_⟩) (by exact hHeld) ?_
      rotate_left
      · intro w hSw
        (try dsimp only at hSw)
        go_simp
        try with_reducible rfl
      try simp only [Act.put, List.setIfInBounds_toArray, List.set_cons_zero, List.set_cons_succ]
      refine wpTill_ready (rs := [0, 5]) (by kernel_rfl) (by simp) ?_
      refine AllTill.cons (o := ⟨some 3, _, _, _, _, _⟩) rfl (fun K hK => ?_) ?_
      · refine step_fresh (enc := encU) (E := 27) rfl [5, 60, 300, 100000] #[.int .u64 5, .int .u64 60, .int .u64 300, .int .u64 100000] rfl (by simp) (by kernel_rfl) ?_
        intro W0 v0 g0 f0 hg0 hx0
        obtain ⟨o0, c0, rfl, _, _⟩ := f0.shape
        obtain ⟨q0, r0, rfl, l0, e0, _⟩ := f0.el1 (f := fun n : Nat => Value.int .u64 n) (fun _ => rfl) ha1
        obtain rfl := Option.some.inj r0
        clear r0 f0 hg0
        have e11 := cell_keep hx0 l11 e11
        have l11 := Nat.lt_of_lt_of_le l11 hx0.size
        have HB0 := Lib.hid (below_call HB11.out HB11.out.size hx0)
        have z0 := below_keeps hx0 z11 (heap_lt z11)
        refine hK.out _ _ (by exact e11) (fun hHeld => ?_)
        clear hK K
        try simp only [Act.put, List.setIfInBounds_toArray, List.set_cons_zero, List.set_cons_succ]
        refine wpTill_more (S' := fun w' => (w'.cell? ⟨g11, i3, none⟩ = some (.int .u64 a3)) ∧ w'.cell? ⟨g0, i1, none⟩ = some (.int .u64 a1)) (fun _ h => h.1) ?_
        replace hHeld : (W0.cell? ⟨g11, i3, none⟩ = some (.int .u64 a3)) ∧ W0.cell? ⟨g0, i1, none⟩ = some (.int .u64 a1) := ⟨e11, e0⟩
        refine wpTill_take0 (i := 3) (oi := ⟨some 6, _, _, _, _, _⟩) (v := ?_) rfl (by kernel_rfl) (fun _ _ _ h => h) (Or.inl ⟨by rfl, ?_⟩) (fun _ => hHeld) ?_
        rotate_left
        · intro w hSw
          (try dsimp only at hSw)
          go_simp
          try with_reducible rfl
        try simp only [Act.put, List.setIfInBounds_toArray, List.set_cons_zero, List.set_cons_succ]
        refine wpTill_take (i := 4) (oi := ⟨some 7, _, _, _, _, _⟩) (v := ?_) rfl (by kernel_rfl) (fun _ _ _ h => h) (Or.inl ⟨by rfl, ?_⟩) (by exact hHeld) ?_
        rotate_left
        · intro w hSw
          (try dsimp only at hSw)
          go_simp
          try with_reducible rfl
        try simp only [Act.put, List.setIfInBounds_toArray, List.set_cons_zero, List.set_cons_succ]
        refine wpTill_ready (rs := [5]) (by kernel_rfl) (by simp) ?_
        refine AllTill.cons (o := ⟨some 8, _, _, _, _, _⟩) rfl (fun K hK => ?_) AllTill.nil
        refine step_fresh (enc := encU) (E := 27) rfl [3, 40, 200, 9999] #[.int .u64 3, .int .u64 40, .int .u64 200, .int .u64 9999] rfl (by simp) (by kernel_rfl) ?_
        intro W5 v5 g5 f5 hg5 hx5
        obtain ⟨o5, c5, rfl, _, _⟩ := f5.shape
        obtain ⟨q5, r5, rfl, l5, e5, _⟩ := f5.el1 (f := fun n : Nat => Value.int .u64 n) (fun _ => rfl) ha2
        obtain rfl := Option.some.inj r5
        clear r5 f5 hg5
        have e11 := cell_keep hx5 l11 e11
        have e0 := cell_keep hx5 l0 e0
        have l11 := Nat.lt_of_lt_of_le l11 hx5.size
        have l0 := Nat.lt_of_lt_of_le l0 hx5.size
        have HB5 := Lib.hid (below_call HB0.out HB0.out.size hx5)
        have z5 := below_keeps hx5 z0 (heap_lt z0)
        refine hK.out _ _ (by exact ⟨e11, e0⟩) (fun hHeld => ?_)
        clear hK K
        try simp only [Act.put, List.setIfInBounds_toArray, List.set_cons_zero, List.set_cons_succ]
        refine wpTill_more (S' := fun w' => ((w'.cell? ⟨g11, i3, none⟩ = some (.int .u64 a3)) ∧ w'.cell? ⟨g0, i1, none⟩ = some (.int .u64 a1)) ∧ w'.cell? ⟨g5, i2, none⟩ = some (.int .u64 a2)) (fun _ h => h.1) ?_
        replace hHeld : ((W5.cell? ⟨g11, i3, none⟩ = some (.int .u64 a3)) ∧ W5.cell? ⟨g0, i1, none⟩ = some (.int .u64 a1)) ∧ W5.cell? ⟨g5, i2, none⟩ = some (.int .u64 a2) := ⟨⟨e11, e0⟩, e5⟩
        refine wpTill_take0 (i := 9) (oi := ⟨some 12, _, _, _, _, _⟩) (v := ?_) rfl (by kernel_rfl) (fun _ _ _ h => h) (Or.inl ⟨by rfl, ?_⟩) (fun _ => hHeld) ?_
        rotate_left
        · intro w hSw
          (try dsimp only at hSw)
          go_simp
          try with_reducible rfl
        try simp only [Act.put, List.setIfInBounds_toArray, List.set_cons_zero, List.set_cons_succ]
        refine wpTill_take (i := 10) (oi := ⟨some 13, _, _, _, _, _⟩) (v := ?_) rfl (by kernel_rfl) (fun _ _ _ h => h) (Or.inl ⟨by rfl, ?_⟩) (by exact hHeld) ?_
        rotate_left
        · intro w hSw
          (try dsimp only at hSw)
          go_simp
          try with_reducible rfl
        try simp only [Act.put, List.setIfInBounds_toArray, List.set_cons_zero, List.set_cons_succ]
        refine wpTill_take0 (i := 17) (oi := ⟨some 20, _, _, _, _, _⟩) (v := ?_) rfl (by kernel_rfl) (fun _ _ _ h => h) (Or.inl ⟨by rfl, ?_⟩) (fun _ => hHeld) ?_
        rotate_left
        · intro w hSw
          (try dsimp only at hSw)
          go_simp
          try with_reducible rfl
        try simp only [Act.put, List.setIfInBounds_toArray, List.set_cons_zero, List.set_cons_succ]
        refine wpTill_ready (rs := [18]) (by kernel_rfl) (by simp) ?_
        refine AllTill.consD (o := ⟨none, _, _, _, _, _⟩) rfl (by kernel_rfl) (fun K hK => ?_) AllTill.nil
        rw [if_pos (show Region.wanted _ _ = true from rfl)]
        refine wp_store_row 60 (.tmp 2) (.tmp 20) rfl _ _ rfl rfl 60 _ (by exact z5) (by rw [sizePm]; rfl) (by rfl) (by simp [Value.oneCell']) ?_
        refine hK.out _ _ ?_
        clear hK K
        try simp only [Act.put, List.setIfInBounds_toArray, List.set_cons_zero, List.set_cons_succ]
        refine wpTill_done (by kernel_rfl) ?_ _
        go_wp2_with fail
        go_meet
        case rel => exact ⟨_, rfl, Nat.le_refl _, setRow_heap _ _ _ _ _ _ z5, setRow_below1 HB5.out (Nat.le_refl _)⟩
      refine AllTill.cons (o := ⟨some 8, _, _, _, _, _⟩) rfl (fun K hK => ?_) ?_
      · refine step_fresh (enc := encU) (E := 27) rfl [3, 40, 200, 9999] #[.int .u64 3, .int .u64 40, .int .u64 200, .int .u64 9999] rfl (by simp) (by kernel_rfl) ?_
        intro W5 v5 g5 f5 hg5 hx5
        obtain ⟨o5, c5, rfl, _, _⟩ := f5.shape
        obtain ⟨q5, r5, rfl, l5, e5, _⟩ := f5.el1 (f := fun n : Nat => Value.int .u64 n) (fun _ => rfl) ha2
        obtain rfl := Option.some.inj r5
        clear r5 f5 hg5
        have e11 := cell_keep hx5 l11 e11
        have l11 := Nat.lt_of_lt_of_le l11 hx5.size
        have HB5 := Lib.hid (below_call HB11.out HB11.out.size hx5)
        have z5 := below_keeps hx5 z11 (heap_lt z11)
        refine hK.out _ _ (by exact e11) (fun hHeld => ?_)
        clear hK K
        try simp only [Act.put, List.setIfInBounds_toArray, List.set_cons_zero, List.set_cons_succ]
        refine wpTill_more (S' := fun w' => (w'.cell? ⟨g11, i3, none⟩ = some (.int .u64 a3)) ∧ w'.cell? ⟨g5, i2, none⟩ = some (.int .u64 a2)) (fun _ h => h.1) ?_
        replace hHeld : (W5.cell? ⟨g11, i3, none⟩ = some (.int .u64 a3)) ∧ W5.cell? ⟨g5, i2, none⟩ = some (.int .u64 a2) := ⟨e11, e5⟩
        refine wpTill_take0 (i := 9) (oi := ⟨some 12, _, _, _, _, _⟩) (v := ?_) rfl (by kernel_rfl) (fun _ _ _ h => h) (Or.inl ⟨by rfl, ?_⟩) (fun _ => hHeld) ?_
        rotate_left
        · intro w hSw
          (try dsimp only at hSw)
          go_simp
          try with_reducible rfl
        try simp only [Act.put, List.setIfInBounds_toArray, List.set_cons_zero, List.set_cons_succ]
        refine wpTill_take (i := 10) (oi := ⟨some 13, _, _, _, _, _⟩) (v := ?_) rfl (by kernel_rfl) (fun _ _ _ h => h) (Or.inl ⟨by rfl, ?_⟩) (by exact hHeld) ?_
        rotate_left
        · intro w hSw
          (try dsimp only at hSw)
          go_simp
          try with_reducible rfl
        try simp only [Act.put, List.setIfInBounds_toArray, List.set_cons_zero, List.set_cons_succ]
        refine wpTill_ready (rs := [0]) (by kernel_rfl) (by simp) ?_
        refine AllTill.cons (o := ⟨some 3, _, _, _, _, _⟩) rfl (fun K hK => ?_) AllTill.nil
        refine step_fresh (enc := encU) (E := 27) rfl [5, 60, 300, 100000] #[.int .u64 5, .int .u64 60, .int .u64 300, .int .u64 100000] rfl (by simp) (by kernel_rfl) ?_
        intro W0 v0 g0 f0 hg0 hx0
        obtain ⟨o0, c0, rfl, _, _⟩ := f0.shape
        obtain ⟨q0, r0, rfl, l0, e0, _⟩ := f0.el1 (f := fun n : Nat => Value.int .u64 n) (fun _ => rfl) ha1
        obtain rfl := Option.some.inj r0
        clear r0 f0 hg0
        have e11 := cell_keep hx0 l11 e11
        have e5 := cell_keep hx0 l5 e5
        have l11 := Nat.lt_of_lt_of_le l11 hx0.size
        have l5 := Nat.lt_of_lt_of_le l5 hx0.size
        have HB0 := Lib.hid (below_call HB5.out HB5.out.size hx0)
        have z0 := below_keeps hx0 z5 (heap_lt z5)
        refine hK.out _ _ (by exact ⟨e11, e5⟩) (fun hHeld => ?_)
        clear hK K
        try simp only [Act.put, List.setIfInBounds_toArray, List.set_cons_zero, List.set_cons_succ]
        refine wpTill_more (S' := fun w' => ((w'.cell? ⟨g11, i3, none⟩ = some (.int .u64 a3)) ∧ w'.cell? ⟨g5, i2, none⟩ = some (.int .u64 a2)) ∧ w'.cell? ⟨g0, i1, none⟩ = some (.int .u64 a1)) (fun _ h => h.1) ?_
        replace hHeld : ((W0.cell? ⟨g11, i3, none⟩ = some (.int .u64 a3)) ∧ W0.cell? ⟨g5, i2, none⟩ = some (.int .u64 a2)) ∧ W0.cell? ⟨g0, i1, none⟩ = some (.int .u64 a1) := ⟨⟨e11, e5⟩, e0⟩
        refine wpTill_take0 (i := 3) (oi := ⟨some 6, _, _, _, _, _⟩) (v := ?_) rfl (by kernel_rfl) (fun _ _ _ h => h) (Or.inl ⟨by rfl, ?_⟩) (fun _ => hHeld) ?_
        rotate_left
        · intro w hSw
          (try dsimp only at hSw)
          go_simp
          try with_reducible rfl
        try simp only [Act.put, List.setIfInBounds_toArray, List.set_cons_zero, List.set_cons_succ]
        refine wpTill_take (i := 4) (oi := ⟨some 7, _, _, _, _, _⟩) (v := ?_) rfl (by kernel_rfl) (fun _ _ _ h => h) (Or.inl ⟨by rfl, ?_⟩) (by exact hHeld) ?_
        rotate_left
        · intro w hSw
          (try dsimp only at hSw)
          go_simp
          try with_reducible rfl
        try simp only [Act.put, List.setIfInBounds_toArray, List.set_cons_zero, List.set_cons_succ]
        refine wpTill_take0 (i := 17) (oi := ⟨some 20, _, _, _, _, _⟩) (v := ?_) rfl (by kernel_rfl) (fun _ _ _ h => h) (Or.inl ⟨by rfl, ?_⟩) (fun _ => hHeld) ?_
        rotate_left
        · intro w hSw
          (try dsimp only at hSw)
          go_simp
          try with_reducible rfl
        try simp only [Act.put, List.setIfInBounds_toArray, List.set_cons_zero, List.set_cons_succ]
        refine wpTill_ready (rs := [18]) (by kernel_rfl) (by simp) ?_
        refine AllTill.consD (o := ⟨none, _, _, _, _, _⟩) rfl (by kernel_rfl) (fun K hK => ?_) AllTill.nil
        rw [if_pos (show Region.wanted _ _ = true from rfl)]
        refine wp_store_row 60 (.tmp 2) (.tmp 20) rfl _ _ rfl rfl 60 _ (by exact z0) (by rw [sizePm]; rfl) (by rfl) (by simp [Value.oneCell']) ?_
        refine hK.out _ _ ?_
        clear hK K
        try simp only [Act.put, List.setIfInBounds_toArray, List.set_cons_zero, List.set_cons_succ]
        refine wpTill_done (by kernel_rfl) ?_ _
        go_wp2_with fail
        go_meet
        case rel => exact ⟨_, rfl, Nat.le_refl _, setRow_heap _ _ _ _ _ _ z0, setRow_below1 HB0.out (Nat.le_refl _)⟩
      exact AllTill.nil
    exact AllTill.nil
  case rest =>
    obtain ⟨y, rfl, hy, hk, hb⟩ := hcut
    generalize wc = w1 at *
    have HB := Lib.hid hb
    have HK := Lib.hid hk
    clear hb hk
    go_wp2_with fail
    refine bodyPost_ret (v := .agg (encPm ⟨0, a1, a2, a3, 0, 0, 0, 0, 0, 0, 0, 0⟩).toArray) ?_ rfl ⟨rfl, HB.out⟩
    exact results_cell_row rfl _ _ y 60 _ (0, 0) _ rfl HK.out Tryz.underlying60 rfl (by rw [sizePm]; rfl)
end Go.Proofs.YtnneoeimgbemfaaGreat

/- DERIVED. Walks of narthexbook's small functions. -/
namespace Go.Proofs.YtnneoeimgbemfaaGreat
open Go.RowKit

def withinS (n lo hi : Int) : Int := if lo ≤ n ∧ n ≤ hi then n else lo + n % (hi - lo + 1)
theorem withinS_bd (n lo hi : Int) (h : lo ≤ hi) : lo ≤ withinS n lo hi ∧ withinS n lo hi ≤ hi := by
  unfold withinS
  split
  · assumption
  · have := Int.emod_nonneg n (b := hi - lo + 1) (by omega)
    have := Int.emod_lt_of_pos n (b := hi - lo + 1) (by omega)
    omega
theorem tmod_fix (n m : Int) (hm : 0 < m) : (if n.tmod m < 0 then n.tmod m + m else n.tmod m) = n % m := by
  have h1 := Int.emod_nonneg n (b := m) (by omega)
  have h2 := Int.emod_lt_of_pos n (b := m) hm
  rcases Int.le_total 0 n with hn | hn
  · rw [Int.tmod_eq_emod_of_nonneg hn]
    split <;> omega
  · have h3 := Int.tmod_eq_emod (a := n) (b := m)
    have h4 := Int.emod_eq_zero_of_dvd (a := m) (b := n)
    have h5 : ((m.natAbs : Nat) : Int) = m := by omega
    split at h3
    · rename_i hd
      simp only [Int.sub_zero, Int.cast_ofNat_Int] at h3
      rcases hd with hd | hd
      · obtain rfl : n = 0 := by omega
        simp
      · have := h4 hd
        split <;> omega
    · split <;> omega
theorem tmod_bd (n m : Int) (hm : 0 < m) : -m ≤ n.tmod m ∧ n.tmod m < m := by
  have h := tmod_fix n m hm
  have h1 := Int.emod_nonneg n (b := m) (by omega)
  have h2 := Int.emod_lt_of_pos n (b := m) hm
  split at h <;> omega


set_option maxHeartbeats 1000000 in
theorem within_any (n lo hi : Int) (w : World) (h : lo ≤ hi) (h1 : -1099511627776 ≤ lo) (h2 : hi ≤ 1099511627776) (hn : -9223372036854775808 ≤ n) (hn2 : n ≤ 9223372036854775807) :
    Calls Tryz.prog 12 #[.int .i64 n, .int .i64 lo, .int .i64 hi] w fun e w' =>
      e = .returned (.int .i64 (withinS n lo hi)) ∧ w = w' := by
  obtain ⟨b1, b2⟩ := tmod_bd n (hi - lo + 1) (by omega)
  have hfix := Lib.hid (tmod_fix n (hi - lo + 1) (by omega))
  by_cases hc : lo ≤ n
  all_goals by_cases hd : n ≤ hi
  all_goals
    go_enter Tryz.func12, Tryz.ntmps12
    go_wp2
  all_goals (first | (exfalso; omega) | skip)
  all_goals go_ret
  all_goals refine ⟨ret_i64 ?_, rfl⟩
  all_goals have hfx := hfix.out
  all_goals unfold withinS
  all_goals first | (rw [if_pos ⟨hc, hd⟩]; done) | (rw [if_neg (by omega)]; split at hfx <;> omega)

end Go.Proofs.YtnneoeimgbemfaaGreat

/- DERIVED. Walk of narthexlaw18's StreamsOpen. -/
namespace Go.Proofs.YtnneoeimgbemfaaGreat
open Go.RowKit

/-- Two sets of one's own. -/
def TP (W w : World) (p : Nat) (t : ST) (q : Nat) (u : ST) : Prop := ∃ lab a b lab2 a2 b2, StAt w p t lab a b ∧ StAt w q u lab2 a2 b2 ∧ (∀ k, lab k ≠ .out → lab2 k = .out) ∧ (∀ k, lab k ≠ .out → W.heap.size ≤ k) ∧ (∀ k, lab2 k ≠ .out → W.heap.size ≤ k) ∧ Below W.heap.size W w
theorem TP.below {W w : World} {p q : Nat} {t u : ST} (h : TP W w p t q u) : Below W.heap.size W w := by
  obtain ⟨_, _, _, _, _, _, _, _, _, _, _, h⟩ := h
  exact h
theorem TP.later {W w w' : World} {p q : Nat} {t u : ST} (h : TP W w p t q u) (hb : Below w.heap.size w w') : TP W w' p t q u := by
  obtain ⟨lab, a, b, lab2, a2, b2, h1, h2, h3, h4, h5, h6⟩ := h
  exact ⟨lab, a, b, lab2, a2, b2, h1.below hb, h2.below hb, h3, h4, h5, below_call h6 h6.size hb⟩
theorem TP.swap {W w : World} {p q : Nat} {t u : ST} (h : TP W w p t q u) : TP W w q u p t := by
  obtain ⟨lab, a, b, lab2, a2, b2, h1, h2, h3, h4, h5, h6⟩ := h
  refine ⟨lab2, a2, b2, lab, a, b, h2, h1, fun k hk => ?_, h5, h4, h6⟩
  cases hq : lab k with
  | out => rfl
  | _ => exact absurd (h3 k (by rw [hq]; simp)) hk
theorem TP.mk {W w1 w2 : World} {p q : Nat} {t u : ST} (h : TMine W w1 p t) (k : TMine w1 w2 q u) : TP W w2 p t q u := by
  obtain ⟨lab, a, b, h1, h2, h3⟩ := h
  obtain ⟨lab2, a2, b2, k1, k2, k3⟩ := k
  have hs := h3.size
  refine ⟨lab, a, b, lab2, a2, b2, h1.below k3, k1, fun j hj => ?_, h2, fun j hj => by have := k2 j hj; omega, below_call h3 hs k3⟩
  cases hq : lab2 j with
  | out => rfl
  | _ =>
    have := k2 j (by rw [hq]; simp)
    have := h1.lt j hj
    omega
/-- The first one, to be turned. -/
theorem TP.open {W w : World} {p q : Nat} {t u : ST} (h : TP W w p t q u) : ∃ lab a b, StAt w p t lab a b ∧ ∀ w' t', (∃ lab', StAt w' p t' lab' a b ∧ Went (fun k => lab k ≠ .out) (fun k => lab' k ≠ .out) w w') → TP W w' p t' q u := by
  obtain ⟨lab, a, b, lab2, a2, b2, h1, h2, h3, h4, h5, h6⟩ := h
  refine ⟨lab, a, b, h1, fun w' t' ⟨lab', q1, q2⟩ => ?_⟩
  obtain ⟨r1, r2⟩ := went_mine h4 h6 q2
  refine ⟨lab', a, b, lab2, a2, b2, q1, h2.keeps q2.upd (fun k hk => h3 k hk), fun k hk => ?_, r1, h5, r2⟩
  rcases q2.new k hk with e | e
  · exact h3 k e
  · cases hq : lab2 k with
    | out => rfl
    | _ =>
      have := h2.lt k (by rw [hq]; simp)
      have e : w.heap.size ≤ k := e
      omega
def oT (sv : Bool) (k : Nat) : ST := (ST.new sv (pmN 63)).allow ⟨0, 100, 100, k, 0, 0, 0, 0, 0, 0, 0, 0⟩
def ST.opns (t : ST) : Nat → ST
  | 0 => t
  | n + 1 => (t.opns n).opn
def oU (sv : Bool) : ST := ST.new (!sv) (pmN 63)
def oF (sv : Bool) (j : Nat) : Fr := ⟨8, (if sv then 1 else 0) + 4 * j, 0, .slice none 0 0, false, 0, 0, 0, 0, 0, .slice none 0 0, 0, 0, 0, 0, 0, 0, 0, 0⟩
theorem oT_facts : ∀ (sv : Bool) (k : Fin 13) (i : Fin 15), ((oT sv k.val).opns i.val).opnV = (if i.val < min k.val 8 then ((if sv then 1 else 0) + 4 * i.val, 0) else (0, 31)) ∧ ((oT sv k.val).opns i.val).own.length = min i.val (min k.val 8) ∧
    ((oT sv k.val).opns i.val).ids.length = min i.val (min k.val 8) := by decide +kernel
theorem oU_facts : ∀ (sv : Bool) (j : Fin 8), (oU sv).may (oF sv j.val) 0 = 0 ∧ ((oU sv).onS (oF sv j.val) []).ids = (List.range (j.val + 1)).map fun i => (if sv then 1 else 0) + 4 * i := by decide +kernel
theorem oU_more : ∀ sv : Bool, (oU sv).mine.ms = 8 ∧ (oU sv).others.length = 0 := by decide +kernel
theorem pm63_ok : (pmN 63).Ok := ⟨by decide, by decide, by decide, by decide⟩
end Go.Proofs.YtnneoeimgbemfaaGreat

/- DERIVED. Split off InbRd. -/
namespace Go.Proofs.YtnneoeimgbemfaaGreat
open Go.RowKit

set_option maxHeartbeats 400000 in
theorem bread_q (b : Nat) (s : IB) (fp : Nat → Prop) (w : World) (h : IbAt w b s fp) :
    Calls Tryz.prog 60 #[.pointer (some ⟨b, 0, none⟩)] w fun e w' => e = .returned (.int .u64 s.rd) ∧ ∃ n, w' = w.drewN n := by
  obtain ⟨c0, _, _, _⟩ := h.cells
  clear h
  go_enter Tryz.func60, Tryz.ntmps60
  go_wp2
  go_ret
  exact ⟨rfl, 0, rfl⟩
end Go.Proofs.YtnneoeimgbemfaaGreat

/- DERIVED. Split off RcvMay. -/
namespace Go.Proofs.YtnneoeimgbemfaaGreat
open Go.RowKit

set_option maxHeartbeats 1000000 in
theorem rtaken_q (r : Nat) (s : RS) (fp : Nat → Prop) (w : World) (h : RAt w r s fp) : Calls Tryz.prog 43 #[.pointer (some ⟨r, 0, none⟩)] w fun e w' => e = .returned (.int .u64 s.taken) ∧ ∃ n, w' = w.drewN n := by
  obtain ⟨_, _, c2, _, _, c6⟩ := h.cells
  obtain ⟨b, fb, hb, _, c4⟩ := h.ptr
  have HB := Lib.hid hb
  clear h hb
  by_cases h5 : 5 ≤ s.st
  · have e : s.taken = s.fnl := if_pos h5
    rw [e]
    clear e
    generalize s.st = st at *
    go_enter Tryz.func43, Tryz.ntmps43
    go_wp2_with fail
    go_ret
    exact ⟨rfl, 0, rfl⟩
  · have e : s.taken = s.ib.rd := if_neg h5
    rw [e]
    clear e
    generalize s.st = st at *
    go_enter Tryz.func43, Tryz.ntmps43
    go_wp2_with fail
    refine (bread_q b s.ib fb _ (by exact HB.out)).mono ?_
    rintro e w1 ⟨rfl, q, rfl⟩
    go_wp2_with fail
    go_ret
    exact ⟨rfl, q, rfl⟩
end Go.Proofs.YtnneoeimgbemfaaGreat

/- DERIVED. Walk of frame's in: may all these numbers be written? -/
namespace Go.Proofs.YtnneoeimgbemfaaGreat
open Go.RowKit

def overB (n : Nat) : Bool := decide (4611686018427387903 < n)
set_option maxRecDepth 100000 in
theorem in1_fn (n : Nat) (w : World) (hn : n < 18446744073709551616) : Calls Tryz.prog 105 #[.int .u64 n] w fun e w' => e = .returned (.bool (overB n)) ∧ w' = w := by
  obtain ⟨z, hz, hz2⟩ : ∃ z : Int, (n : Int) = z ∧ overB n = decide (4611686018427387903 < z) := ⟨_, rfl, by unfold overB; exact decide_eq_decide.2 (by omega)⟩
  rw [hz, hz2]
  clear hz2
  go_enter Tryz.func105, Tryz.ntmps105
  go_wp2_with fail
  go_ret
  exact ⟨rfl, rfl⟩
set_option maxRecDepth 100000 in
set_option maxHeartbeats 1000000 in
theorem index_in (v : Value) (l : List Nat) (B : Nat) (w : World) (h : Vw encU w B v l) (hl : ∀ n ∈ l, n < 18446744073709551616) :
    Calls Tryz.prog 108 #[v, .func (.func 105) #[] #[]] w
      fun e w' => ∃ z : Int, e = .returned (.int .i64 z) ∧ (decide (0 ≤ z) = l.any overB) ∧ w' = w := by
  obtain ⟨oa, cap, rfl, h1, h2⟩ := h.shape
  have H := Lib.hid h
  generalize hn : l.length = len at *
  have HN := Lib.hid hn
  clear h hn
  go_enter Tryz.func108, Tryz.ntmps108
  go_wp2_with fail
  go_loopw [8] (fun i wr => ∃ k : Nat, i = .int .i64 k ∧ k ≤ len ∧ (l.take k).any overB = false ∧ wr = w) (fun i _ => len - (intOf i).toNat)
  case atStart => exact ⟨0, rfl, by omega, rfl, rfl⟩
  case round =>
    obtain ⟨k, rfl, hk, ht, rfl⟩ := hrel
    have HT := Lib.hid ht
    clear ht
    by_cases hlt : k < len
    · obtain ⟨x, hx⟩ : ∃ x, l[k]? = some x := ⟨_, List.getElem?_eq_getElem (by rw [HN.out]; exact hlt)⟩
      obtain ⟨b, off, rfl, _, c0⟩ := H.out.num64 hx
      have hx2 := hl x (List.mem_of_getElem? hx)
      have hst : (l.take (k + 1)).any overB = overB x := by
        rw [List.take_add_one, hx, List.any_append, HT.out]
        simp
      have HST := Lib.hid hst
      have HX := Lib.hid hx
      clear hx hst
      cases hp : overB x
      all_goals go_wp2_with fail
      all_goals (refine (in1_fn x _ hx2).mono ?_; rintro e w' ⟨rfl, rfl⟩)
      · rw [hp]
        go_wp2_with fail
        go_roundw
        case rel => exact ⟨k + 1, by go_num, by omega, by rw [HST.out, hp], trivial⟩
        case measure => simp [intOf]; omega
      · rw [hp]
        go_wp2_with fail
        go_ret
        refine ⟨k, rfl, ?_, rfl⟩
        have h1 : l.any overB = true := List.any_eq_true.2 ⟨x, List.mem_of_getElem? HX.out, hp⟩
        rw [h1]
        simp
    · go_wp2_with fail
      go_ret
      refine ⟨-1, rfl, ?_, rfl⟩
      have := HT.out
      rw [List.take_of_length_le (by rw [HN.out]; omega)] at this
      rw [this]
      rfl
set_option maxRecDepth 100000 in
set_option maxHeartbeats 1000000 in
theorem contains_in (v : Value) (l : List Nat) (B : Nat) (w : World) (h : Vw encU w B v l) (hl : ∀ n ∈ l, n < 18446744073709551616) :
    Calls Tryz.prog 104 #[v, .func (.func 105) #[] #[]] w fun e w' => e = .returned (.bool (l.any overB)) ∧ w' = w := by
  have H := Lib.hid h
  have HL := Lib.hid hl
  obtain ⟨oa, cap, rfl, h1, h2⟩ := h.shape
  clear h hl
  go_enter Tryz.func104, Tryz.ntmps104
  go_wp2_with fail
  refine (index_in _ l B _ (by exact H.out) HL.out).mono ?_
  rintro e w1 ⟨z, rfl, hz, rfl⟩
  have HZ := Lib.hid hz
  clear hz
  go_wp2_with fail
  go_ret
  refine ⟨?_, rfl⟩
  rw [← HZ.out]
  rfl
/-- May all these numbers be written? -/
def inB (l : List Nat) : Bool := !(l.any overB)
set_option maxRecDepth 100000 in
set_option maxHeartbeats 1000000 in
theorem in_any (v : Value) (l : List Nat) (B : Nat) (w : World) (h : Vw encU w B v l) (hl : ∀ n ∈ l, n < 18446744073709551616) :
    Calls Tryz.prog 88 #[v] w fun e w' => e = .returned (.bool (inB l)) ∧ w' = w := by
  have H := Lib.hid h
  have HL := Lib.hid hl
  obtain ⟨oa, cap, rfl, h1, h2⟩ := h.shape
  clear h hl
  go_enter Tryz.func88, Tryz.ntmps88
  go_wp2_with fail
  refine (contains_in _ l B _ (by exact H.out) HL.out).mono ?_
  rintro e w1 ⟨rfl, rfl⟩
  obtain ⟨o, ho⟩ : ∃ o, l.any overB = o := ⟨_, rfl⟩
  have HO := Lib.hid (show inB l = !o by unfold inB; rw [ho])
  rw [ho]
  clear ho
  go_wp2_with fail
  go_ret
  refine ⟨?_, rfl⟩
  rw [HO.out]
  rfl
end Go.Proofs.YtnneoeimgbemfaaGreat
