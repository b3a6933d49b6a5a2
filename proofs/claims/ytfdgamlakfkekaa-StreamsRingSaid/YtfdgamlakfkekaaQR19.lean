/- DERIVED. streams: New (printed by mkstnew.py). -/
import Derived.Test.YtfdgamlakfkekaaQR3
import Derived.Test.YtfdgamlakfkekaaQR13
set_option linter.all false
namespace Go.Proofs.Ytfdgamlakfkekaa
open Go.RowKit

def Pm.cut (m : Pm) : Pm := { m with ms := min m.ms 8, msd := min m.msd 2048 }
def ST.new (server : Bool) (m : Pm) : ST := ⟨m.cut, Pm.zero, if server then 1 else 0, [], [], 0, false, m.md, false, 0⟩
theorem sizePm : (Try.prog.info? 29).map (·.size) = some 12 := by kernel_rfl
/-- A set of new blocks alone. -/
def TMine (W w : World) (p : Nat) (t : ST) : Prop := ∃ lab a b, StAt w p t lab a b ∧ (∀ k, lab k ≠ .out → W.heap.size ≤ k) ∧ Below W.heap.size W w
theorem new_at {W w : World} {p a b : Nat} {server : Bool} {m : Pm} (hm : m.Ok) (hb : Below W.heap.size W w) (hp : W.heap.size ≤ p) (ha : W.heap.size ≤ a) (hbb : W.heap.size ≤ b) (hpa : p ≠ a) (hpb : p ≠ b) (hab : a ≠ b)
    (h1 : w.heap[p]? = some (.cells (tcells (ST.new server m) a b) 80 (0, 0))) (h2 : w.heap[a]? = some (.cells #[.int .u64 (if server then 1 else 0 : Nat), .slice none 0 0] 78 (0, 0)))
    (h3 : w.heap[b]? = some (.cells #[.int .u64 (1 - (if server then 1 else 0) : Nat), .slice none 0 0] 78 (0, 0))) : TMine W w p (ST.new server m) := by
  obtain ⟨lab, hl⟩ : ∃ lab : Nat → Lab, lab = fun k => if k = p then .set else if k = a then .side true else if k = b then .side false else .out := ⟨_, rfl⟩
  have lp : lab p = .set := by rw [hl]; exact if_pos rfl
  have la : lab a = .side true := by rw [hl]; show (if a = p then _ else _) = _; rw [if_neg (fun e => hpa e.symm), if_pos rfl]
  have lb : lab b = .side false := by rw [hl]; show (if b = p then _ else _) = _; rw [if_neg (fun e => hpb e.symm), if_neg (fun e => hab e.symm), if_pos rfl]
  have lin : ∀ k, lab k ≠ .out → k = p ∨ k = a ∨ k = b := fun k hk => by
    rw [hl] at hk
    by_cases q1 : k = p
    · exact .inl q1
    · by_cases q2 : k = a
      · exact .inr (.inl q2)
      · by_cases q3 : k = b
        · exact .inr (.inr q3)
        · exfalso
          apply hk
          show (if k = p then _ else _) = _
          rw [if_neg q1, if_neg q2, if_neg q3]
  refine ⟨lab, a, b, ⟨h1, lp, ⟨_, none, [], h2, la, SlG.nil _, by simp, rfl, fun i h q => by simp [ST.new] at q⟩, ⟨_, none, [], h3, lb, SlG.nil _, by simp, rfl, fun i h q => by simp [ST.new] at q⟩, fun k hk => ?_, ?_⟩, fun k hk => ?_, hb⟩
  · rcases lin k hk with rfl | rfl | rfl
    · exact heap_lt h1
    · exact heap_lt h2
    · exact heap_lt h3
  · refine ⟨⟨hm.idle, hm.md, ?_, ?_⟩, ⟨by show 0 < _; omega, by show 0 < _; omega, by show 0 < _; omega, by show 0 < _; omega⟩, ?_, by show 0 ≤ 1000; omega, by show 0 ≤ 1000; omega, fun i h q => by simp [ST.new] at q, fun i h q => by simp [ST.new] at q, by show 0 < _; omega, hm.md, by show 0 < _; omega⟩
    · show min m.msd 2048 < _
      omega
    · show min m.ms 8 < _
      omega
    · cases server
      · exact .inl rfl
      · exact .inr rfl
  · rcases lin k hk with rfl | rfl | rfl
    · exact hp
    · exact ha
    · exact hbb
theorem tcells_swap (m : Pm) (x y : Nat) : ((tcells (ST.new false m) x y).setIfInBounds 24 (.pointer (some ⟨y, 0, none⟩))).setIfInBounds 25 (.pointer (some ⟨x, 0, none⟩)) = tcells (ST.new true m) y x := by
  unfold tcells
  simp only [List.setIfInBounds_toArray, List.set_cons_zero, List.set_cons_succ]
  rfl
theorem tcells_24 (m : Pm) (x y : Nat) : (tcells (ST.new false m) x y)[24]? = some (.pointer (some ⟨x, 0, none⟩)) ∧ (tcells (ST.new false m) x y)[25]? = some (.pointer (some ⟨y, 0, none⟩)) := ⟨rfl, rfl⟩
structure NewS (w W : World) (p x y : Nat) (m : Pm) : Prop where
  below : Below w.heap.size w W
  lp : w.heap.size ≤ p
  lx : w.heap.size ≤ x
  ly : w.heap.size ≤ y
  px : p ≠ x
  py : p ≠ y
  xy : x ≠ y
  hp : W.heap[p]? = some (.cells (tcells (ST.new false m) x y) 80 (0, 0))
  hx : W.heap[x]? = some (.cells #[.int .u64 (0 : Nat), .slice none 0 0] 78 (0, 0))
  hy : W.heap[y]? = some (.cells #[.int .u64 (1 : Nat), .slice none 0 0] 78 (0, 0))
structure NewF (w W5 : World) (p x y : Nat) (m : Pm) : Prop where
  fin : TMine w ((W5.setCell ⟨p, 24, none⟩ (.pointer (some ⟨y, 0, none⟩))).setCell ⟨p, 25, none⟩ (.pointer (some ⟨x, 0, none⟩))).drew p (ST.new true m)
  f24 : W5.frozen? ⟨p, 24, none⟩ = false
  e24 : W5.cell? ⟨p, 24, none⟩ = some (.pointer (some ⟨x, 0, none⟩))
  e25 : W5.cell? ⟨p, 25, none⟩ = some (.pointer (some ⟨y, 0, none⟩))
  g25 : (W5.setCell ⟨p, 24, none⟩ (.pointer (some ⟨y, 0, none⟩))).cell? ⟨p, 25, none⟩ = some (.pointer (some ⟨y, 0, none⟩))
  gf25 : (W5.setCell ⟨p, 24, none⟩ (.pointer (some ⟨y, 0, none⟩))).frozen? ⟨p, 25, none⟩ = false
theorem new_facts {w W5 : World} {p x y : Nat} {m : Pm} (hm : m.Ok) (n : NewS w W5 p x y m) : NewF w W5 p x y m := by
  obtain ⟨n1, n2, n3, n4, n5, n6, n7, n8, n9, n10⟩ := n
  have hs8 := set_at n8 24 (.pointer (some ⟨y, 0, none⟩))
  refine ⟨?_, free_at n8 24, (cell_at n8 24).trans (tcells_24 _ _ _).1, (cell_at n8 25).trans (tcells_24 _ _ _).2, (cell_at hs8 25).trans (by rw [Array.getElem?_setIfInBounds_ne (by omega)]; exact (tcells_24 _ _ _).2), free_at hs8 25⟩
  have hu : Upd (fun j => j = p) W5 ((W5.setCell ⟨p, 24, none⟩ (.pointer (some ⟨y, 0, none⟩))).setCell ⟨p, 25, none⟩ (.pointer (some ⟨x, 0, none⟩))).drew := (((Upd.refl (fun j => j = p) _).setCell ⟨p, 24, none⟩ (.inl rfl) _).setCell ⟨p, 25, none⟩ (.inl rfl) _).drew
  refine new_at (server := true) hm (Upd.belowOf n1 hu (fun j hj q => by omega)) n2 n4 n3 n6 n5 (fun e => n7 e.symm) ?_ (hu.keeps n10 (fun e => n6 e.symm)) (hu.keeps n9 (fun e => n5 e.symm))
  exact (set_at hs8 25 (.pointer (some ⟨x, 0, none⟩))).trans (by rw [tcells_swap])
set_option maxRecDepth 100000 in
set_option maxHeartbeats 2000000 in
theorem tnew_any (server : Bool) (m : Pm) (hm : m.Ok) (w : World) :
    Calls Try.prog 7 #[.bool server, .agg (encPm m).toArray] w fun e w' => ∃ p, e = .returned (.pointer (some ⟨p, 0, none⟩)) ∧ TMine w w' p (ST.new server m) := by
  have HM := Lib.hid hm
  obtain ⟨idle, md, msd, ms, c0, c1, c2, c3, c4, c5, c6, c7⟩ := m
  obtain ⟨h1, h2, h3, h4⟩ := hm
  simp only at h1 h2 h3 h4
  obtain ⟨ms2, hms2⟩ : ∃ ms2, min ms 8 = ms2 := ⟨_, rfl⟩
  obtain ⟨msd2, hmsd2⟩ : ∃ msd2, min msd 2048 = msd2 := ⟨_, rfl⟩
  have hi1 : (if 8 < (ms : Int) then 8 else (ms : Int)) = (ms2 : Int) := by split <;> omega
  have hi2 : (if 2048 < (msd : Int) then 2048 else (msd : Int)) = (msd2 : Int) := by split <;> omega
  have HM2 := Lib.hid (And.intro hms2 hmsd2)
  clear hms2 hmsd2
  obtain ⟨WW, hWW⟩ : ∃ WW : World, WW = (((w.alloc (.cells #[.int .u64 idle, .int .u64 md, .int .u64 msd2, .int .u64 ms2, .int .u8 c0, .int .u8 c1, .int .u8 c2, .int .u8 c3, .int .u8 c4, .int .u8 c5, .int .u8 c6, .int .u8 c7] 29)).alloc
      (.cells #[.int .u64 0, .slice none 0 0] 78)).alloc (.cells #[.int .u64 1, .slice none 0 0] 78)) := ⟨_, rfl⟩
  have hbel : Below w.heap.size w WW := by
    rw [hWW]
    exact (((Below.refl _ _).alloc (Nat.le_refl _) _).alloc (by simp) _).alloc (by simp; omega) _
  have hsz : WW.heap.size = w.heap.size + 3 := by rw [hWW]; simp
  have ha1 : WW.heap[w.heap.size + 1]? = some (.cells #[.int .u64 0, .slice none 0 0] 78 (0, 0)) := by
    rw [hWW]
    have e := alloc_at (w.alloc (.cells #[.int .u64 idle, .int .u64 md, .int .u64 msd2, .int .u64 ms2, .int .u8 c0, .int .u8 c1, .int .u8 c2, .int .u8 c3, .int .u8 c4, .int .u8 c5, .int .u8 c6, .int .u8 c7] 29)) (.cells #[.int .u64 0, .slice none 0 0] 78)
    rw [show (w.alloc (.cells #[.int .u64 idle, .int .u64 md, .int .u64 msd2, .int .u64 ms2, .int .u8 c0, .int .u8 c1, .int .u8 c2, .int .u8 c3, .int .u8 c4, .int .u8 c5, .int .u8 c6, .int .u8 c7] 29)).heap.size = w.heap.size + 1 by simp] at e
    exact below_keeps ((Below.refl _ _).alloc (Nat.le_refl _) _) e (heap_lt e)
  have ha2 : WW.heap[w.heap.size + 1 + 1]? = some (.cells #[.int .u64 1, .slice none 0 0] 78 (0, 0)) := by
    rw [hWW]
    have e := alloc_at ((w.alloc (.cells #[.int .u64 idle, .int .u64 md, .int .u64 msd2, .int .u64 ms2, .int .u8 c0, .int .u8 c1, .int .u8 c2, .int .u8 c3, .int .u8 c4, .int .u8 c5, .int .u8 c6, .int .u8 c7] 29)).alloc (.cells #[.int .u64 0, .slice none 0 0] 78)) (.cells #[.int .u64 1, .slice none 0 0] 78)
    rw [show ((w.alloc (.cells #[.int .u64 idle, .int .u64 md, .int .u64 msd2, .int .u64 ms2, .int .u8 c0, .int .u8 c1, .int .u8 c2, .int .u8 c3, .int .u8 c4, .int .u8 c5, .int .u8 c6, .int .u8 c7] 29)).alloc (.cells #[.int .u64 0, .slice none 0 0] 78)).heap.size = w.heap.size + 1 + 1 by simp] at e
    exact e
  have hns : NewS w (WW.alloc (.cells (tcells (ST.new false ⟨idle, md, msd, ms, c0, c1, c2, c3, c4, c5, c6, c7⟩) (w.heap.size + 1) (w.heap.size + 1 + 1)) 80)) (w.heap.size + 1 + 1 + 1) (w.heap.size + 1) (w.heap.size + 1 + 1) ⟨idle, md, msd, ms, c0, c1, c2, c3, c4, c5, c6, c7⟩ := by
    have e := alloc_at WW (.cells (tcells (ST.new false ⟨idle, md, msd, ms, c0, c1, c2, c3, c4, c5, c6, c7⟩) (w.heap.size + 1) (w.heap.size + 1 + 1)) 80)
    rw [hsz] at e
    have hb := (Below.refl WW.heap.size WW).alloc (Nat.le_refl _) (.cells (tcells (ST.new false ⟨idle, md, msd, ms, c0, c1, c2, c3, c4, c5, c6, c7⟩) (w.heap.size + 1) (w.heap.size + 1 + 1)) 80)
    exact ⟨below_call hbel hbel.size hb, by omega, by omega, by omega, by omega, by omega, by omega, e, below_keeps hb ha1 (heap_lt ha1), below_keeps hb ha2 (heap_lt ha2)⟩
  have HNS := Lib.hid (show ∀ W, W = (WW.alloc (.cells (tcells (ST.new false ⟨idle, md, msd, ms, c0, c1, c2, c3, c4, c5, c6, c7⟩) (w.heap.size + 1) (w.heap.size + 1 + 1)) 80)) → NewS w W (w.heap.size + 1 + 1 + 1) (w.heap.size + 1) (w.heap.size + 1 + 1) ⟨idle, md, msd, ms, c0, c1, c2, c3, c4, c5, c6, c7⟩ from fun W e => e ▸ hns)
  clear hns hbel hsz ha1 ha2
  simp only [encPm]
  go_enter Try.func7, Try.ntmps7
  go_upto_region 3 with fail
  go_cut [5] (fun v wx => ∃ p x y, v = .pointer (some ⟨p, 0, none⟩) ∧ NewS w wx p x y ⟨idle, md, msd, ms, c0, c1, c2, c3, c4, c5, c6, c7⟩)
  case first =>
    go_wp2_with (refine wpList_load_row rfl 29 (.tmp 3) rfl w.heap.size rfl 29 _ (0, 0) _ (by exact alloc_at w _) Try.underlying29 rfl (by rw [sizePm]; rfl) ?_)
    go_meet
    case rel =>
      refine ⟨_, _, _, rfl, HNS.out _ ?_⟩
      rw [hWW]
      obtain ⟨rfl, rfl⟩ := HM2.out
      rfl
  case rest =>
    obtain ⟨p, x, y, rfl, hn⟩ := hcut
    clear hWW HNS HM2 hi1 hi2
    generalize wc = W5 at *
    obtain ⟨n1, n2, n3, n4, n5, n6, n7, n8, n9, n10⟩ := hn
    cases server
    · have HF := Lib.hid (new_at (server := false) HM.out n1 n2 n3 n4 n5 n6 n7 n8 n9 n10)
      clear n1 n2 n3 n4 n5 n6 n7 n8 n9 n10
      go_wp2_with fail
      go_ret
      exact ⟨_, rfl, HF.out⟩
    · obtain ⟨hfin, f24, e24, e25, g25, gf25⟩ := new_facts HM.out ⟨n1, n2, n3, n4, n5, n6, n7, n8, n9, n10⟩
      have HFIN := Lib.hid hfin
      have HS0 := Lib.hid (show W5.drew.cell? ⟨p, 24, none⟩ = some (.pointer (some ⟨x, 0, none⟩)) ∧ W5.drew.cell? ⟨p, 25, none⟩ = some (.pointer (some ⟨y, 0, none⟩)) from ⟨e24, e25⟩)
      clear hfin n1 n2 n3 n4 n5 n6 n7 n8 n9 n10 HM
      go_upto_region 5 with fail
      refine wp_region_till (S := fun w' => w'.cell? ⟨p, 24, none⟩ = some (.pointer (some ⟨x, 0, none⟩)) ∧ w'.cell? ⟨p, 25, none⟩ = some (.pointer (some ⟨y, 0, none⟩))) [12, 15] (by kernel_rfl) (by exact HS0.out) (fun hHeld => ?_)
      refine wpTill_take0 (i := 0) (oi := ⟨some 24, _, _, _, _, _⟩) (v := ?_) rfl (by kernel_rfl) (fun _ _ _ h => h) (Or.inl ⟨by rfl, ?_⟩) (fun _ => hHeld) ?_
      rotate_left
      · intro w hSw
        (try dsimp only at hSw)
        go_simp
        try with_reducible rfl
      try simp only [Act.put, List.setIfInBounds_toArray, List.set_cons_zero, List.set_cons_succ]
      refine wpTill_take0 (i := 1) (oi := ⟨some 25, _, _, _, _, _⟩) (v := ?_) rfl (by kernel_rfl) (fun _ _ _ h => h) (Or.inl ⟨by rfl, ?_⟩) (fun _ => hHeld) ?_
      rotate_left
      · intro w hSw
        (try dsimp only at hSw)
        go_simp
        try with_reducible rfl
      try simp only [Act.put, List.setIfInBounds_toArray, List.set_cons_zero, List.set_cons_succ]
      refine wpTill_take0 (i := 2) (oi := ⟨some 26, _, _, _, _, _⟩) (v := ?_) rfl (by kernel_rfl) (fun _ _ _ h => h) (Or.inl ⟨by rfl, ?_⟩) (fun _ => hHeld) ?_
      rotate_left
      · intro w hSw
        (try dsimp only at hSw)
        go_simp
        try with_reducible rfl
      try simp only [Act.put, List.setIfInBounds_toArray, List.set_cons_zero, List.set_cons_succ]
      refine wpTill_take0 (i := 3) (oi := ⟨some 27, _, _, _, _, _⟩) (v := ?_) rfl (by kernel_rfl) (fun _ _ _ h => h) (Or.inl ⟨by rfl, ?_⟩) (fun _ => hHeld) ?_
      rotate_left
      · intro w hSw
        (try dsimp only at hSw)
        go_simp
        try with_reducible rfl
      try simp only [Act.put, List.setIfInBounds_toArray, List.set_cons_zero, List.set_cons_succ]
      refine wpTill_take0 (i := 4) (oi := ⟨some 28, _, _, _, _, _⟩) (v := ?_) rfl (by kernel_rfl) (fun _ _ _ h => h) (Or.inl ⟨by rfl, ?_⟩) (fun _ => hHeld) ?_
      rotate_left
      · intro w hSw
        (try dsimp only at hSw)
        go_simp
        try with_reducible rfl
      try simp only [Act.put, List.setIfInBounds_toArray, List.set_cons_zero, List.set_cons_succ]
      refine wpTill_take (i := 5) (oi := ⟨some 29, _, _, _, _, _⟩) (v := ?_) rfl (by kernel_rfl) (fun _ _ _ h => h) (Or.inl ⟨by rfl, ?_⟩) (by exact hHeld) ?_
      rotate_left
      · intro w hSw
        (try dsimp only at hSw)
        go_simp
        try with_reducible rfl
      try simp only [Act.put, List.setIfInBounds_toArray, List.set_cons_zero, List.set_cons_succ]
      refine wpTill_take0 (i := 6) (oi := ⟨some 30, _, _, _, _, _⟩) (v := ?_) rfl (by kernel_rfl) (fun _ _ _ h => h) (Or.inl ⟨by rfl, ?_⟩) (fun _ => hHeld) ?_
      rotate_left
      · intro w hSw
        (try dsimp only at hSw)
        go_simp
        try with_reducible rfl
      try simp only [Act.put, List.setIfInBounds_toArray, List.set_cons_zero, List.set_cons_succ]
      refine wpTill_take0 (i := 7) (oi := ⟨some 31, _, _, _, _, _⟩) (v := ?_) rfl (by kernel_rfl) (fun _ _ _ h => h) (Or.inl ⟨by rfl, ?_⟩) (fun _ => hHeld) ?_
      rotate_left
      · intro w hSw
        (try dsimp only at hSw)
        go_simp
        try with_reducible rfl
      try simp only [Act.put, List.setIfInBounds_toArray, List.set_cons_zero, List.set_cons_succ]
      refine wpTill_take0 (i := 8) (oi := ⟨some 32, _, _, _, _, _⟩) (v := ?_) rfl (by kernel_rfl) (fun _ _ _ h => h) (Or.inl ⟨by rfl, ?_⟩) (fun _ => hHeld) ?_
      rotate_left
      · intro w hSw
        (try dsimp only at hSw)
        go_simp
        try with_reducible rfl
      try simp only [Act.put, List.setIfInBounds_toArray, List.set_cons_zero, List.set_cons_succ]
      refine wpTill_take (i := 9) (oi := ⟨some 33, _, _, _, _, _⟩) (v := ?_) rfl (by kernel_rfl) (fun _ _ _ h => h) (Or.inl ⟨by rfl, ?_⟩) (by exact hHeld) ?_
      rotate_left
      · intro w hSw
        (try dsimp only at hSw)
        go_simp
        try with_reducible rfl
      try simp only [Act.put, List.setIfInBounds_toArray, List.set_cons_zero, List.set_cons_succ]
      refine wpTill_take0 (i := 10) (oi := ⟨some 34, _, _, _, _, _⟩) (v := ?_) rfl (by kernel_rfl) (fun _ _ _ h => h) (Or.inl ⟨by rfl, ?_⟩) (fun _ => hHeld) ?_
      rotate_left
      · intro w hSw
        (try dsimp only at hSw)
        go_simp
        try with_reducible rfl
      try simp only [Act.put, List.setIfInBounds_toArray, List.set_cons_zero, List.set_cons_succ]
      refine wpTill_take0 (i := 11) (oi := ⟨some 35, _, _, _, _, _⟩) (v := ?_) rfl (by kernel_rfl) (fun _ _ _ h => h) (Or.inl ⟨by rfl, ?_⟩) (fun _ => hHeld) ?_
      rotate_left
      · intro w hSw
        (try dsimp only at hSw)
        go_simp
        try with_reducible rfl
      try simp only [Act.put, List.setIfInBounds_toArray, List.set_cons_zero, List.set_cons_succ]
      refine wpTill_ready (rs := [12]) (by kernel_rfl) (by simp) ?_
      refine AllTill.consD (o := ⟨none, _, _, _, _, _⟩) rfl (by kernel_rfl) (fun K hK => ?_) AllTill.nil
      go_wp2_with fail
      refine hK.out _ _ ?_
      clear hK K
      try simp only [Act.put, List.setIfInBounds_toArray, List.set_cons_zero, List.set_cons_succ]
      refine wpTill_take0 (i := 13) (oi := ⟨some 36, _, _, _, _, _⟩) (v := ?_) rfl (by kernel_rfl) (fun _ _ _ h => h) (Or.inl ⟨by rfl, ?_⟩) (fun h => Bool.noConfusion (h.symm.trans (show _ = true by kernel_rfl))) ?_
      rotate_left
      · intro w hSw
        (try dsimp only at hSw)
        go_simp
        try with_reducible rfl
      try simp only [Act.put, List.setIfInBounds_toArray, List.set_cons_zero, List.set_cons_succ]
      refine wpTill_take0 (i := 14) (oi := ⟨some 37, _, _, _, _, _⟩) (v := ?_) rfl (by kernel_rfl) (fun _ _ _ h => h) (Or.inl ⟨by rfl, ?_⟩) (fun h => Bool.noConfusion (h.symm.trans (show _ = true by kernel_rfl))) ?_
      rotate_left
      · intro w hSw
        (try dsimp only at hSw)
        go_simp
        try with_reducible rfl
      try simp only [Act.put, List.setIfInBounds_toArray, List.set_cons_zero, List.set_cons_succ]
      refine wpTill_ready (rs := [15]) (by kernel_rfl) (by simp) ?_
      refine AllTill.consD (o := ⟨none, _, _, _, _, _⟩) rfl (by kernel_rfl) (fun K hK => ?_) AllTill.nil
      rw [if_pos (show Region.wanted _ _ = true from rfl)]
      go_simp
      refine hK.out _ _ ?_
      clear hK K
      try simp only [Act.put, List.setIfInBounds_toArray, List.set_cons_zero, List.set_cons_succ]
      refine wpTill_done (by kernel_rfl) ?_ _
      go_wp2_with fail
      go_ret
      exact ⟨_, rfl, HFIN.out⟩
end Go.Proofs.Ytfdgamlakfkekaa
