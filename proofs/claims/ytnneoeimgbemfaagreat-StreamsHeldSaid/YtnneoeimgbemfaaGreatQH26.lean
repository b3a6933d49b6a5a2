/- DERIVED. Walks of Held (printed by mkhld.py). -/
import Derived.Laws.Rows
import Derived.Test.YtnneoeimgbemfaaGreatQH2
import Derived.Test.YtnneoeimgbemfaaGreatQH3
import Derived.Test.YtnneoeimgbemfaaGreatQH16
import Derived.Test.YtnneoeimgbemfaaGreatQH20
import Derived.Test.YtnneoeimgbemfaaGreatQH22
import Derived.Test.YtnneoeimgbemfaaGreatQH24
import Derived.Test.YtnneoeimgbemfaaGreatQH25
set_option linter.all false
namespace Go.Proofs.YtnneoeimgbemfaaGreat
open Go.RowKit

set_option maxRecDepth 100000 in
set_option maxHeartbeats 1000000 in
theorem oheld_any (b : Nat) (s : OS) (fp : Nat → Prop) (w : World) (h : OAt w b s fp) (hc : cntL s.xs ≤ s.B.length) :
    Calls Tryz.prog 54 #[.pointer (some ⟨b, 0, none⟩)] w fun e w' => e = .returned (.int .i64 (s.B.length - cntL s.xs : Nat)) ∧ Below w.heap.size w w' := by
  obtain ⟨_, c2, _⟩ := h.cells
  have hlen := h.ok.len
  obtain ⟨vb, ob, c, oc, d, od, hO, _⟩ := h
  have c4 : w.cell? ⟨b, 4, none⟩ = some (.pointer (some ⟨c, 0, none⟩)) := (cell_at hO.blk 4).trans rfl
  have HX := Lib.hid hO.sx
  have HNX := Lib.hid hO.ok.nx
  obtain ⟨len, hle⟩ : ∃ len, s.B.length = len := ⟨_, rfl⟩
  obtain ⟨n, hne⟩ : ∃ n, cntL s.xs = n := ⟨_, rfl⟩
  rw [hle] at hc hlen c2 ⊢
  rw [hne] at hc ⊢
  have HC := Lib.hid hne
  have hsub : IntKind.u64.wrap ((len : Int) - (n : Int)) = (len - n : Nat) := by rw [IntWalk.u64_in _ (by omega)]; omega
  have hw2 : IntKind.i64.wrap ((len - n : Nat) : Int) = (len - n : Nat) := IntWalk.i64_in _ (by omega)
  clear hO hle hne
  go_enter Tryz.func54, Tryz.ntmps54
  go_upto_region 1 with fail
  refine wp_region_till (S := fun w' => w'.cell? ⟨b, 2, none⟩ = some (.int .u64 len) ∧ w'.cell? ⟨b, 4, none⟩ = some (.pointer (some ⟨c, 0, none⟩))) [] (by kernel_rfl) (by exact ⟨c2, c4⟩) (fun hHeld => ?_)
  refine wpTill_take0 (i := 0) (oi := ⟨some 3, _, _, _, _, _⟩) (v := ?_) rfl (by kernel_rfl) (fun _ _ _ h => h) (Or.inl ⟨by rfl, ?_⟩) (fun _ => hHeld) ?_
  rotate_left
  · intro w hSw
    (try dsimp only at hSw)
    go_simp
    try with_reducible rfl
  try simp only [Act.put, List.setIfInBounds_toArray, List.set_cons_zero, List.set_cons_succ]
  refine wpTill_take0 (i := 1) (oi := ⟨some 4, _, _, _, _, _⟩) (v := ?_) rfl (by kernel_rfl) (fun _ _ _ h => h) (Or.inl ⟨by rfl, ?_⟩) (fun _ => hHeld) ?_
  rotate_left
  · intro w hSw
    (try dsimp only at hSw)
    go_simp
    try with_reducible rfl
  try simp only [Act.put, List.setIfInBounds_toArray, List.set_cons_zero, List.set_cons_succ]
  refine wpTill_take0 (i := 2) (oi := ⟨some 5, _, _, _, _, _⟩) (v := ?_) rfl (by kernel_rfl) (fun _ _ _ h => h) (Or.inl ⟨by rfl, ?_⟩) (fun _ => hHeld) ?_
  rotate_left
  · intro w hSw
    (try dsimp only at hSw)
    go_simp
    try with_reducible rfl
  try simp only [Act.put, List.setIfInBounds_toArray, List.set_cons_zero, List.set_cons_succ]
  refine wpTill_take (i := 3) (oi := ⟨some 6, _, _, _, _, _⟩) (v := ?_) rfl (by kernel_rfl) (fun _ _ _ h => h) (Or.inl ⟨by rfl, ?_⟩) (by exact hHeld) ?_
  rotate_left
  · intro w hSw
    (try dsimp only at hSw)
    go_simp
    try with_reducible rfl
  try simp only [Act.put, List.setIfInBounds_toArray, List.set_cons_zero, List.set_cons_succ]
  refine wpTill_take0 (i := 4) (oi := ⟨some 7, _, _, _, _, _⟩) (v := ?_) rfl (by kernel_rfl) (fun _ _ _ h => h) (Or.inl ⟨by rfl, ?_⟩) (fun _ => hHeld) ?_
  rotate_left
  · intro w hSw
    (try dsimp only at hSw)
    go_simp
    try with_reducible rfl
  try simp only [Act.put, List.setIfInBounds_toArray, List.set_cons_zero, List.set_cons_succ]
  refine wpTill_take0 (i := 5) (oi := ⟨some 8, _, _, _, _, _⟩) (v := ?_) rfl (by kernel_rfl) (fun _ _ _ h => h) (Or.inl ⟨by rfl, ?_⟩) (fun _ => hHeld) ?_
  rotate_left
  · intro w hSw
    (try dsimp only at hSw)
    go_simp
    try with_reducible rfl
  try simp only [Act.put, List.setIfInBounds_toArray, List.set_cons_zero, List.set_cons_succ]
  refine wpTill_take0 (i := 6) (oi := ⟨some 9, _, _, _, _, _⟩) (v := ?_) rfl (by kernel_rfl) (fun _ _ _ h => h) (Or.inl ⟨by rfl, ?_⟩) (fun _ => hHeld) ?_
  rotate_left
  · intro w hSw
    (try dsimp only at hSw)
    go_simp
    try with_reducible rfl
  try simp only [Act.put, List.setIfInBounds_toArray, List.set_cons_zero, List.set_cons_succ]
  refine wpTill_take (i := 7) (oi := ⟨some 10, _, _, _, _, _⟩) (v := ?_) rfl (by kernel_rfl) (fun _ _ _ h => h) (Or.inl ⟨by rfl, ?_⟩) (by exact hHeld) ?_
  rotate_left
  · intro w hSw
    (try dsimp only at hSw)
    go_simp
    try with_reducible rfl
  try simp only [Act.put, List.setIfInBounds_toArray, List.set_cons_zero, List.set_cons_succ]
  refine wpTill_ready (rs := [8]) (by kernel_rfl) (by simp) ?_
  refine AllTill.cons (o := ⟨some 11, _, _, _, _, _⟩) rfl (fun K hK => ?_) AllTill.nil
  rw [if_pos (show Region.wanted _ _ = true from rfl)]
  go_simp
  go_at_call 75
  refine (count_any c many oc s.xs _ (by exact HX.out) HNX.out).mono ?_
  rw [HC.out]
  rintro e w1 ⟨rfl, hb⟩
  have HB := Lib.hid (below_call ((Below.refl _ _).drew : Below w.heap.size w w.drew) (Nat.le_refl _) hb)
  have h12 := And.intro (cell_keep HB.out (cell_lt1 c2) c2) (cell_keep HB.out (cell_lt1 c4) c4)
  clear hb
  go_simp
  refine hK.out _ _ (by exact h12) (fun hHeld => ?_)
  clear hK K
  try simp only [Act.put, List.setIfInBounds_toArray, List.set_cons_zero, List.set_cons_succ]
  refine wpTill_take0 (i := 9) (oi := ⟨some 12, _, _, _, _, _⟩) (v := ?_) rfl (by kernel_rfl) (fun _ _ _ h => h) (Or.inl ⟨by rfl, ?_⟩) (fun _ => hHeld) ?_
  rotate_left
  · intro w hSw
    (try dsimp only at hSw)
    go_simp
    try with_reducible rfl
  try simp only [Act.put, List.setIfInBounds_toArray, List.set_cons_zero, List.set_cons_succ]
  refine wpTill_take0 (i := 10) (oi := ⟨some 13, _, _, _, _, _⟩) (v := ?_) rfl (by kernel_rfl) (fun _ _ _ h => h) (Or.inl ⟨by rfl, ?_⟩) (fun _ => hHeld) ?_
  rotate_left
  · intro w hSw
    (try dsimp only at hSw)
    go_simp
    try with_reducible rfl
  try simp only [Act.put, List.setIfInBounds_toArray, List.set_cons_zero, List.set_cons_succ]
  refine wpTill_take0 (i := 11) (oi := ⟨some 2, _, _, _, _, _⟩) (v := ?_) rfl (by kernel_rfl) (fun _ _ _ h => h) (Or.inl ⟨by rfl, ?_⟩) (fun _ => hHeld) ?_
  rotate_left
  · intro w hSw
    (try dsimp only at hSw)
    go_simp
    try with_reducible rfl
  try simp only [Act.put, List.setIfInBounds_toArray, List.set_cons_zero, List.set_cons_succ]
  refine wpTill_done (by kernel_rfl) ?_ _
  go_wp2_with fail
  go_ret
  exact ⟨rfl, HB.out⟩

def SS.held (s : SS) : Nat := if 5 ≤ s.st then 0 else s.os.B.length - cntL s.os.xs
set_option maxRecDepth 100000 in
set_option maxHeartbeats 1000000 in
theorem sheld_any (r : Nat) (s : SS) (fp : Nat → Prop) (w : World) (h : SdAt w r s fp) (hc : cntL s.os.xs ≤ s.os.B.length) :
    Calls Tryz.prog 33 #[.pointer (some ⟨r, 0, none⟩)] w fun e w' => e = .returned (.int .i64 s.held) ∧ Below w.heap.size w w' := by
  obtain ⟨b, fb, hb, _, _, c⟩ := h.ptr
  obtain ⟨_, c1, _⟩ := h.cells
  have HB := Lib.hid hb
  have HC := Lib.hid hc
  unfold SS.held
  clear h hb hc
  by_cases h5 : 5 ≤ s.st
  · rw [if_pos h5]
    generalize s.st = st at *
    go_enter Tryz.func33, Tryz.ntmps33
    go_wp2_with fail
    go_ret
    exact ⟨rfl, Below.refl _ _⟩
  · rw [if_neg h5]
    generalize s.st = st at *
    go_enter Tryz.func33, Tryz.ntmps33
    go_wp2_with fail
    refine (oheld_any b s.os fb _ (by exact HB.out) HC.out).mono ?_
    rintro e w1 ⟨rfl, hb⟩
    go_wp2_with fail
    go_ret
    exact ⟨rfl, hb⟩
set_option maxRecDepth 100000 in
set_option maxHeartbeats 1000000 in
theorem bheld_any (b : Nat) (s : IB) (fp : Nat → Prop) (n : Nat) (w : World) (h : IbAt w b s fp) (hn : n ≤ 100000) (hc : ∀ xs, CameIs s xs → cntL xs = s.rd + n) :
    Calls Tryz.prog 55 #[.pointer (some ⟨b, 0, none⟩)] w fun e w' => e = .returned (.int .i64 n) ∧ Below w.heap.size w w' := by
  obtain ⟨c0, _⟩ := h.cells
  obtain ⟨hrd, _⟩ := h.bd
  obtain ⟨c, og, xs, cs, hO, _⟩ := h
  have c5 : w.cell? ⟨b, 2052, none⟩ = some (.pointer (some ⟨c, 0, none⟩)) := by rw [cell_at hO.blk, hO.c5]
  have HX := Lib.hid hO.came
  have HNX := Lib.hid hO.is.1
  have HC := Lib.hid (hc xs hO.is)
  generalize s.rd = rd at *
  obtain ⟨tt, htt⟩ : ∃ tt, rd + n = tt := ⟨_, rfl⟩
  rw [htt] at HC
  have hsub : IntKind.u64.wrap ((tt : Int) - (rd : Int)) = (n : Nat) := by rw [IntWalk.u64_in _ (by omega)]; omega
  have hw2 : IntKind.i64.wrap ((n : Nat) : Int) = (n : Nat) := IntWalk.i64_in _ (by omega)
  clear hO hc htt
  go_enter Tryz.func55, Tryz.ntmps55
  go_upto_region 1 with fail
  refine wp_region_till (S := fun w' => w'.cell? ⟨b, 0, none⟩ = some (.int .u64 rd) ∧ w'.cell? ⟨b, 2052, none⟩ = some (.pointer (some ⟨c, 0, none⟩))) [] (by kernel_rfl) (by exact ⟨c0, c5⟩) (fun hHeld => ?_)
  refine wpTill_take0 (i := 0) (oi := ⟨some 3, _, _, _, _, _⟩) (v := ?_) rfl (by kernel_rfl) (fun _ _ _ h => h) (Or.inl ⟨by rfl, ?_⟩) (fun _ => hHeld) ?_
  rotate_left
  · intro w hSw
    (try dsimp only at hSw)
    go_simp
    try with_reducible rfl
  try simp only [Act.put, List.setIfInBounds_toArray, List.set_cons_zero, List.set_cons_succ]
  refine wpTill_take0 (i := 1) (oi := ⟨some 4, _, _, _, _, _⟩) (v := ?_) rfl (by kernel_rfl) (fun _ _ _ h => h) (Or.inl ⟨by rfl, ?_⟩) (fun _ => hHeld) ?_
  rotate_left
  · intro w hSw
    (try dsimp only at hSw)
    go_simp
    try with_reducible rfl
  try simp only [Act.put, List.setIfInBounds_toArray, List.set_cons_zero, List.set_cons_succ]
  refine wpTill_take0 (i := 2) (oi := ⟨some 5, _, _, _, _, _⟩) (v := ?_) rfl (by kernel_rfl) (fun _ _ _ h => h) (Or.inl ⟨by rfl, ?_⟩) (fun _ => hHeld) ?_
  rotate_left
  · intro w hSw
    (try dsimp only at hSw)
    go_simp
    try with_reducible rfl
  try simp only [Act.put, List.setIfInBounds_toArray, List.set_cons_zero, List.set_cons_succ]
  refine wpTill_take (i := 3) (oi := ⟨some 6, _, _, _, _, _⟩) (v := ?_) rfl (by kernel_rfl) (fun _ _ _ h => h) (Or.inl ⟨by rfl, ?_⟩) (by exact hHeld) ?_
  rotate_left
  · intro w hSw
    (try dsimp only at hSw)
    go_simp
    try with_reducible rfl
  try simp only [Act.put, List.setIfInBounds_toArray, List.set_cons_zero, List.set_cons_succ]
  refine wpTill_take0 (i := 5) (oi := ⟨some 8, _, _, _, _, _⟩) (v := ?_) rfl (by kernel_rfl) (fun _ _ _ h => h) (Or.inl ⟨by rfl, ?_⟩) (fun _ => hHeld) ?_
  rotate_left
  · intro w hSw
    (try dsimp only at hSw)
    go_simp
    try with_reducible rfl
  try simp only [Act.put, List.setIfInBounds_toArray, List.set_cons_zero, List.set_cons_succ]
  refine wpTill_take0 (i := 6) (oi := ⟨some 9, _, _, _, _, _⟩) (v := ?_) rfl (by kernel_rfl) (fun _ _ _ h => h) (Or.inl ⟨by rfl, ?_⟩) (fun _ => hHeld) ?_
  rotate_left
  · intro w hSw
    (try dsimp only at hSw)
    go_simp
    try with_reducible rfl
  try simp only [Act.put, List.setIfInBounds_toArray, List.set_cons_zero, List.set_cons_succ]
  refine wpTill_take0 (i := 7) (oi := ⟨some 10, _, _, _, _, _⟩) (v := ?_) rfl (by kernel_rfl) (fun _ _ _ h => h) (Or.inl ⟨by rfl, ?_⟩) (fun _ => hHeld) ?_
  rotate_left
  · intro w hSw
    (try dsimp only at hSw)
    go_simp
    try with_reducible rfl
  try simp only [Act.put, List.setIfInBounds_toArray, List.set_cons_zero, List.set_cons_succ]
  refine wpTill_take (i := 8) (oi := ⟨some 11, _, _, _, _, _⟩) (v := ?_) rfl (by kernel_rfl) (fun _ _ _ h => h) (Or.inl ⟨by rfl, ?_⟩) (by exact hHeld) ?_
  rotate_left
  · intro w hSw
    (try dsimp only at hSw)
    go_simp
    try with_reducible rfl
  try simp only [Act.put, List.setIfInBounds_toArray, List.set_cons_zero, List.set_cons_succ]
  refine wpTill_ready (rs := [4]) (by kernel_rfl) (by simp) ?_
  refine AllTill.cons (o := ⟨some 7, _, _, _, _, _⟩) rfl (fun K hK => ?_) AllTill.nil
  rw [if_pos (show Region.wanted _ _ = true from rfl)]
  go_simp
  go_at_call 75
  refine (count_any c 2048 og xs _ (by exact HX.out) HNX.out).mono ?_
  rw [HC.out]
  rintro e w1 ⟨rfl, hb⟩
  have HB := Lib.hid (below_call ((Below.refl _ _).drew : Below w.heap.size w w.drew) (Nat.le_refl _) hb)
  have h12 := And.intro (cell_keep HB.out (cell_lt1 c0) c0) (cell_keep HB.out (cell_lt1 c5) c5)
  clear hb
  go_simp
  refine hK.out _ _ (by exact h12) (fun hHeld => ?_)
  clear hK K
  try simp only [Act.put, List.setIfInBounds_toArray, List.set_cons_zero, List.set_cons_succ]
  refine wpTill_take0 (i := 9) (oi := ⟨some 12, _, _, _, _, _⟩) (v := ?_) rfl (by kernel_rfl) (fun _ _ _ h => h) (Or.inl ⟨by rfl, ?_⟩) (fun _ => hHeld) ?_
  rotate_left
  · intro w hSw
    (try dsimp only at hSw)
    go_simp
    try with_reducible rfl
  try simp only [Act.put, List.setIfInBounds_toArray, List.set_cons_zero, List.set_cons_succ]
  refine wpTill_take0 (i := 10) (oi := ⟨some 13, _, _, _, _, _⟩) (v := ?_) rfl (by kernel_rfl) (fun _ _ _ h => h) (Or.inl ⟨by rfl, ?_⟩) (fun _ => hHeld) ?_
  rotate_left
  · intro w hSw
    (try dsimp only at hSw)
    go_simp
    try with_reducible rfl
  try simp only [Act.put, List.setIfInBounds_toArray, List.set_cons_zero, List.set_cons_succ]
  refine wpTill_take0 (i := 11) (oi := ⟨some 2, _, _, _, _, _⟩) (v := ?_) rfl (by kernel_rfl) (fun _ _ _ h => h) (Or.inl ⟨by rfl, ?_⟩) (fun _ => hHeld) ?_
  rotate_left
  · intro w hSw
    (try dsimp only at hSw)
    go_simp
    try with_reducible rfl
  try simp only [Act.put, List.setIfInBounds_toArray, List.set_cons_zero, List.set_cons_succ]
  refine wpTill_done (by kernel_rfl) ?_ _
  go_wp2_with fail
  go_ret
  exact ⟨rfl, HB.out⟩

/-- How many bytes a receiver holds. -/
def RHN (r : RS) (n : Nat) : Prop := (5 ≤ r.st ∧ n = 0) ∨ (r.st < 5 ∧ n ≤ 100000 ∧ ∀ xs, CameIs r.ib xs → cntL xs = r.ib.rd + n)
set_option maxRecDepth 100000 in
set_option maxHeartbeats 1000000 in
theorem rheld_any (r : Nat) (s : RS) (fp : Nat → Prop) (n : Nat) (w : World) (h : RAt w r s fp) (hc : RHN s n) :
    Calls Tryz.prog 34 #[.pointer (some ⟨r, 0, none⟩)] w fun e w' => e = .returned (.int .i64 n) ∧ Below w.heap.size w w' := by
  obtain ⟨b, fb, hb, _, c⟩ := h.ptr
  obtain ⟨_, _, c2, _⟩ := h.cells
  have HB := Lib.hid hb
  clear h hb
  rcases hc with ⟨h5, rfl⟩ | ⟨h5, hn, hc⟩
  · generalize s.st = st at *
    go_enter Tryz.func34, Tryz.ntmps34
    go_wp2_with fail
    go_ret
    exact ⟨rfl, Below.refl _ _⟩
  · have h5 : ¬ 5 ≤ s.st := by omega
    have HC := Lib.hid hc
    clear hc
    generalize s.st = st at *
    go_enter Tryz.func34, Tryz.ntmps34
    go_wp2_with fail
    refine (bheld_any b s.ib fb n _ (by exact HB.out) hn HC.out).mono ?_
    rintro e w1 ⟨rfl, hb⟩
    go_wp2_with fail
    go_ret
    exact ⟨rfl, hb⟩
theorem RHN.le {r : RS} {n : Nat} (h : RHN r n) : n ≤ 100000 := by
  rcases h with ⟨_, h⟩ | ⟨_, h, _⟩ <;> omega
set_option maxRecDepth 100000 in
set_option maxHeartbeats 2000000 in
theorem theld_any (p : Nat) (t : ST) (lab : Nat → Lab) (a b : Nat) (w : World) (rn : Bool × Nat × H1 → Nat) (h : StAt w p t lab a b) (hrn : ∀ x ∈ t.all, cntL x.2.2.s.os.xs ≤ x.2.2.s.os.B.length ∧ RHN x.2.2.r (rn x)) :
    Calls Tryz.prog 13 #[.pointer (some ⟨p, 0, none⟩)] w fun e w' => e = .returned (.int .i64 (sumL (t.all.map fun x => x.2.2.s.held + rn x))) ∧ Below w.heap.size w w' := by
  have H := Lib.hid h
  have hal := t.all_len h.ok
  obtain ⟨L, hL⟩ : ∃ L, t.all = L := ⟨_, rfl⟩
  have HL := Lib.hid hL
  rw [hL] at hal hrn ⊢
  have HRN := Lib.hid hrn
  obtain ⟨I, hI⟩ : ∃ I, L.map (fun x => x.2.2.s.held + rn x) = I := ⟨_, rfl⟩
  have HI := Lib.hid hI
  rw [hI]
  obtain ⟨n, hn⟩ : ∃ n, L.length = n := ⟨_, rfl⟩
  have HN := Lib.hid hn
  rw [hn] at hal
  clear h hL hn hI hrn
  go_enter Tryz.func13, Tryz.ntmps13
  go_wp2_with fail
  refine (tall_any p t lab a b _ (by exact H.out)).mono ?_
  rw [HL.out]
  rintro e w1 ⟨v, rfl, hm⟩
  obtain ⟨ov, cv, rfl, hc1, hb1, hel⟩ := hm.shape
  rw [HN.out] at hc1 ⊢
  have HE := Lib.hid hel
  have HB1 := Lib.hid hb1
  clear hm hel hb1
  go_wp2_with fail
  go_loopw [3, 9] (fun v i wr => ∃ j z : Nat, i = .int .i64 j ∧ v = .int .i64 z ∧ j ≤ n ∧ z = sumL (I.take j) ∧ z ≤ 1099511740000 * j ∧ Below w1.heap.size w1 wr) (fun _ i _ => n - (intOf i).toNat)
  case atStart => exact ⟨0, 0, rfl, rfl, by omega, rfl, by omega, Below.refl _ _⟩
  case round =>
    obtain ⟨j, z, rfl, rfl, hj, hz, hzb, hb⟩ := hrel
    have HG := Lib.hid (And.intro hz hb)
    clear hz hb
    by_cases hlt : j < n
    · obtain ⟨x, hx⟩ : ∃ x, L[j]? = some x := ⟨_, List.getElem?_eq_getElem (by rw [HN.out]; exact hlt)⟩
      obtain ⟨g, y, rfl, hgl, hgc, _, bs, br, fs, fr, hyb, _, hs, _, hr, _⟩ := HE.out j x hx
      have g1 := cell_keep HG.out.2 hgl hgc
      have hyb1 := below_keeps HB1.out hyb (heap_lt hyb)
      have hyb2 := below_keeps HG.out.2 hyb1 (heap_lt hyb1)
      have y1 : wr.cell? ⟨y, 1, none⟩ = some (.pointer (some ⟨bs, 0, none⟩)) := (cell_at hyb2 1).trans rfl
      have y2 : wr.cell? ⟨y, 2, none⟩ = some (.pointer (some ⟨br, 0, none⟩)) := (cell_at hyb2 2).trans rfl
      have hs1 := hs.below HB1.out
      have HS := Lib.hid (hs1.below (by
        have := heap_lt hyb1
        exact HG.out.2))
      have hr1 := hr.below HB1.out
      have HR := Lib.hid (hr1.below (by
        have := heap_lt hyb1
        exact HG.out.2))
      have HCX := Lib.hid (HRN.out x (List.mem_of_getElem? hx))
      have hlen := hs.oOk.len
      have hrl := HCX.out.2.le
      have hxi : I[j]? = some (x.2.2.s.held + rn x) := by rw [← HI.out, List.getElem?_map, hx]; rfl
      have hsl : x.2.2.s.held ≤ 1099511640000 := by
        unfold SS.held
        split <;> omega
      have HX := Lib.hid (take_snoc' hxi)
      obtain ⟨sh, hsh⟩ : ∃ sh, x.2.2.s.held = sh := ⟨_, rfl⟩
      obtain ⟨rh, hrh⟩ : ∃ rh, rn x = rh := ⟨_, rfl⟩
      have HH := Lib.hid (And.intro hsh hrh)
      rw [hsh, hrh] at HX
      rw [hsh] at hsl
      rw [hrh] at hrl
      clear hx hyb hyb1 hyb2 hgc hxi hsh hrh hs hs1 hr hr1 hlen
      obtain ⟨sr, hsr⟩ : ∃ sr, sh + rh = sr := ⟨_, rfl⟩
      obtain ⟨zz, hzz⟩ : ∃ zz, z + sr = zz := ⟨_, rfl⟩
      rw [hsr] at HX
      have HZZ := Lib.hid hzz
      have hzzb : zz ≤ 1099511740000 * (j + 1) := by omega
      have hw1 : IntKind.i64.wrap ((sh : Int) + rh) = (sr : Nat) := by rw [IntWalk.i64_in _ (by omega)]; omega
      have hw2 : IntKind.i64.wrap ((z : Int) + sr) = (zz : Nat) := by rw [IntWalk.i64_in _ (by omega)]; omega
      clear hsr hzz
      go_upto_region 5 with fail
      refine wp_region_till (S := fun w' => w'.cell? ⟨y, 1, none⟩ = some (.pointer (some ⟨bs, 0, none⟩)) ∧ w'.cell? ⟨y, 2, none⟩ = some (.pointer (some ⟨br, 0, none⟩))) [] (by kernel_rfl) (by exact ⟨y1, y2⟩) (fun hHeld => ?_)
      refine wpTill_take0 (i := 0) (oi := ⟨some 13, _, _, _, _, _⟩) (v := ?_) rfl (by kernel_rfl) (fun _ _ _ h => h) (Or.inl ⟨by rfl, ?_⟩) (fun _ => hHeld) ?_
      rotate_left
      · intro w hSw
        (try dsimp only at hSw)
        go_simp
        try with_reducible rfl
      try simp only [Act.put, List.setIfInBounds_toArray, List.set_cons_zero, List.set_cons_succ]
      refine wpTill_take0 (i := 1) (oi := ⟨some 14, _, _, _, _, _⟩) (v := ?_) rfl (by kernel_rfl) (fun _ _ _ h => h) (Or.inl ⟨by rfl, ?_⟩) (fun _ => hHeld) ?_
      rotate_left
      · intro w hSw
        (try dsimp only at hSw)
        go_simp
        try with_reducible rfl
      try simp only [Act.put, List.setIfInBounds_toArray, List.set_cons_zero, List.set_cons_succ]
      refine wpTill_take0 (i := 2) (oi := ⟨some 15, _, _, _, _, _⟩) (v := ?_) rfl (by kernel_rfl) (fun _ _ _ h => h) (Or.inl ⟨by rfl, ?_⟩) (fun _ => hHeld) ?_
      rotate_left
      · intro w hSw
        (try dsimp only at hSw)
        go_simp
        try with_reducible rfl
      try simp only [Act.put, List.setIfInBounds_toArray, List.set_cons_zero, List.set_cons_succ]
      refine wpTill_take0 (i := 3) (oi := ⟨some 16, _, _, _, _, _⟩) (v := ?_) rfl (by kernel_rfl) (fun _ _ _ h => h) (Or.inl ⟨by rfl, ?_⟩) (fun _ => hHeld) ?_
      rotate_left
      · intro w hSw
        (try dsimp only at hSw)
        go_simp
        try with_reducible rfl
      try simp only [Act.put, List.setIfInBounds_toArray, List.set_cons_zero, List.set_cons_succ]
      refine wpTill_take (i := 4) (oi := ⟨some 17, _, _, _, _, _⟩) (v := ?_) rfl (by kernel_rfl) (fun _ _ _ h => h) (Or.inl ⟨by rfl, ?_⟩) (by exact hHeld) ?_
      rotate_left
      · intro w hSw
        (try dsimp only at hSw)
        go_simp
        try with_reducible rfl
      try simp only [Act.put, List.setIfInBounds_toArray, List.set_cons_zero, List.set_cons_succ]
      refine wpTill_take0 (i := 6) (oi := ⟨some 19, _, _, _, _, _⟩) (v := ?_) rfl (by kernel_rfl) (fun _ _ _ h => h) (Or.inl ⟨by rfl, ?_⟩) (fun _ => hHeld) ?_
      rotate_left
      · intro w hSw
        (try dsimp only at hSw)
        go_simp
        try with_reducible rfl
      try simp only [Act.put, List.setIfInBounds_toArray, List.set_cons_zero, List.set_cons_succ]
      refine wpTill_take0 (i := 7) (oi := ⟨some 20, _, _, _, _, _⟩) (v := ?_) rfl (by kernel_rfl) (fun _ _ _ h => h) (Or.inl ⟨by rfl, ?_⟩) (fun _ => hHeld) ?_
      rotate_left
      · intro w hSw
        (try dsimp only at hSw)
        go_simp
        try with_reducible rfl
      try simp only [Act.put, List.setIfInBounds_toArray, List.set_cons_zero, List.set_cons_succ]
      refine wpTill_take0 (i := 8) (oi := ⟨some 21, _, _, _, _, _⟩) (v := ?_) rfl (by kernel_rfl) (fun _ _ _ h => h) (Or.inl ⟨by rfl, ?_⟩) (fun _ => hHeld) ?_
      rotate_left
      · intro w hSw
        (try dsimp only at hSw)
        go_simp
        try with_reducible rfl
      try simp only [Act.put, List.setIfInBounds_toArray, List.set_cons_zero, List.set_cons_succ]
      refine wpTill_take (i := 9) (oi := ⟨some 22, _, _, _, _, _⟩) (v := ?_) rfl (by kernel_rfl) (fun _ _ _ h => h) (Or.inl ⟨by rfl, ?_⟩) (by exact hHeld) ?_
      rotate_left
      · intro w hSw
        (try dsimp only at hSw)
        go_simp
        try with_reducible rfl
      try simp only [Act.put, List.setIfInBounds_toArray, List.set_cons_zero, List.set_cons_succ]
      refine wpTill_ready (rs := [5]) (by kernel_rfl) (by simp) ?_
      refine AllTill.cons (o := ⟨some 18, _, _, _, _, _⟩) rfl (fun K hK => ?_) AllTill.nil
      rw [if_pos (show Region.wanted _ _ = true from rfl)]
      go_simp
      go_at_call 33
      refine (sheld_any bs _ fs _ (by exact HS.out.drewN 1) HCX.out.1).mono ?_
      rw [HH.out.1]
      rintro e w2 ⟨rfl, hb⟩
      have HB2 := Lib.hid (below_call ((Below.refl _ _).drew : Below wr.heap.size wr wr.drew) (Nat.le_refl _) hb)
      have h12 := And.intro (cell_keep HB2.out (cell_lt1 y1) y1) (cell_keep HB2.out (cell_lt1 y2) y2)
      clear hb
      go_simp
      refine hK.out _ _ (by exact h12) (fun hHeld => ?_)
      clear hK K
      try simp only [Act.put, List.setIfInBounds_toArray, List.set_cons_zero, List.set_cons_succ]
      refine wpTill_ready (rs := [10]) (by kernel_rfl) (by simp) ?_
      refine AllTill.cons (o := ⟨some 23, _, _, _, _, _⟩) rfl (fun K hK => ?_) AllTill.nil
      rw [if_pos (show Region.wanted _ _ = true from rfl)]
      go_simp
      go_at_call 34
      refine (rheld_any br _ fr _ _ (by exact HR.out.below HB2.out) HCX.out.2).mono ?_
      rw [HH.out.2]
      rintro e w3 ⟨rfl, hb⟩
      have HB3 := Lib.hid (below_call HB2.out HB2.out.size hb)
      have h12 := And.intro (cell_keep HB3.out (cell_lt1 y1) y1) (cell_keep HB3.out (cell_lt1 y2) y2)
      clear hb
      go_simp
      refine hK.out _ _ (by exact h12) (fun hHeld => ?_)
      clear hK K
      try simp only [Act.put, List.setIfInBounds_toArray, List.set_cons_zero, List.set_cons_succ]
      refine wpTill_take0 (i := 11) (oi := ⟨some 24, _, _, _, _, _⟩) (v := ?_) rfl (by kernel_rfl) (fun _ _ _ h => h) (Or.inl ⟨by rfl, ?_⟩) (fun _ => hHeld) ?_
      rotate_left
      · intro w hSw
        (try dsimp only at hSw)
        go_simp
        try with_reducible rfl
      try simp only [Act.put, List.setIfInBounds_toArray, List.set_cons_zero, List.set_cons_succ]
      refine wpTill_take0 (i := 12) (oi := ⟨some 25, _, _, _, _, _⟩) (v := ?_) rfl (by kernel_rfl) (fun _ _ _ h => h) (Or.inl ⟨by rfl, ?_⟩) (fun _ => hHeld) ?_
      rotate_left
      · intro w hSw
        (try dsimp only at hSw)
        go_simp
        try with_reducible rfl
      try simp only [Act.put, List.setIfInBounds_toArray, List.set_cons_zero, List.set_cons_succ]
      refine wpTill_take0 (i := 13) (oi := ⟨some 3, _, _, _, _, _⟩) (v := ?_) rfl (by kernel_rfl) (fun _ _ _ h => h) (Or.inl ⟨by rfl, ?_⟩) (fun _ => hHeld) ?_
      rotate_left
      · intro w hSw
        (try dsimp only at hSw)
        go_simp
        try with_reducible rfl
      try simp only [Act.put, List.setIfInBounds_toArray, List.set_cons_zero, List.set_cons_succ]
      refine wpTill_done (by kernel_rfl) ?_ _
      go_wp2_with fail
      have HN1 := Lib.hid (show zz = sumL (I.take (j + 1)) ∧ Below w1.heap.size w1 w3 from ⟨by rw [HX.out, sumL_snoc, ← HG.out.1, HZZ.out], below_call HG.out.2 HG.out.2.size HB3.out⟩)
      go_roundw
      case rel => exact ⟨j + 1, zz, by go_num, by go_num, by omega, HN1.out.1, hzzb, HN1.out.2⟩
      case measure => simp [intOf]; omega

    · obtain rfl : j = n := by omega
      have HF := Lib.hid (show z = sumL I from by
        have := HG.out.1
        rw [List.take_of_length_le (by rw [← HI.out, List.length_map, HN.out]; exact Nat.le_refl _)] at this
        exact this)
      go_wp2_with fail
      go_ret
      refine ⟨by rw [← HF.out]; rfl, below_call HB1.out HB1.out.size HG.out.2⟩
end Go.Proofs.YtnneoeimgbemfaaGreat

/- DERIVED. A struct is loaded from wherever it lies; the same as an operation that is run. -/
namespace Go.Proofs.YtnneoeimgbemfaaGreat
open Go.RowKit
variable {P : Program}

theorem run_loadVar_at (w : World) (b off : Nat) (ty : TypeId) (cs : List Value) (d : TypeDesc) (hc : ∀ j v, cs[j]? = some v → w.cell? ⟨b, off + j, none⟩ = some v)
    (hu : P.underlying ty = some d) (hd : (match d with | .struct _ | .array _ _ => true | _ => false) = true) (hi : (P.info? ty).map (·.size) = some cs.length) :
    (loadVar ty ⟨b, off, none⟩).run P w = .ok (.agg cs.toArray) w := by
  have hl : (loadCells ⟨b, off, none⟩ cs.length).run P w = .ok cs.toArray w :=
    run_loadCells_list (P := P) w ⟨b, off, none⟩ cs (fun j v hv => by
      rw [add_lit']
      exact hc j v hv)
  cases hq : P.info? ty with
  | none => simp [hq] at hi
  | some i =>
    have hs : i.size = cs.length := by simpa [hq] using hi
    have hagg : (isAgg ty).run P w = .ok true w := by
      unfold isAgg
      rw [Sem.run_bind, run_underlying hu w]
      cases d <;> simp_all
    simp [loadVar, Sem.run_bind, hagg, sizeOf, typeInfo, hq, hs, hl]
theorem wpList_load_at {ops : Array Oper} {rest : List Oper} {o : Oper} {a : Act} {w : World} {Q : Exit → Act → World → Prop} (hgd : o.guard = none) (ty : TypeId) (x : Operand) (ho : o.op = .load ty x)
    (b off : Nat) (hx : a.eval x = .pointer (some ⟨b, off, none⟩)) (cs : List Value) (d : TypeDesc) (hc : ∀ j v, cs[j]? = some v → w.cell? ⟨b, off + j, none⟩ = some v)
    (hu : P.underlying ty = some d) (hd : (match d with | .struct _ | .array _ _ => true | _ => false) = true) (hi : (P.info? ty).map (·.size) = some cs.length)
    (h : wpList P ops Q rest (a.put o.dst (.agg cs.toArray)) w) : wpList P ops Q (o :: rest) a w :=
  wpList_plain hgd fun _ hK => by
    unfold Oper.wp execOp
    simp only [ho, hx, Instr.loadAt, Instr.sureAddr, Sem.run_bind, Sem.run_pure, Result.andThen_ok, run_loadVar_at w b off ty cs d hc hu hd hi]
    exact hK _ _ h
theorem exec_load_row {o : Oper} {w : World} {f : Operand → Value} (ty : TypeId) (x : Operand) (ho : o.op = .load ty x)
    (g : Nat) (hx : f x = .pointer (some ⟨g, 0, none⟩)) (t : TypeId) (cs : Array Value) (fr : Nat × Nat) (d : TypeDesc) (hg : w.heap[g]? = some (.cells cs t fr))
    (hu : P.underlying ty = some d) (hd : (match d with | .struct _ | .array _ _ => true | _ => false) = true) (hi : (P.info? ty).map (·.size) = some cs.size) :
    (execOp f o).run P w = .ok (.value (.agg cs)) w := by
  unfold execOp
  simp only [ho, hx, Instr.loadAt, Instr.sureAddr, Sem.run_bind, Sem.run_pure, Result.andThen_ok, run_loadVar_row w g t ty cs fr d hg hu hd hi]
end Go.Proofs.YtnneoeimgbemfaaGreat

/- DERIVED. streams: Acked of a Stream frame, Read (printed by mkhld.py). -/
namespace Go.Proofs.YtnneoeimgbemfaaGreat
open Go.RowKit

set_option maxRecDepth 100000 in
set_option maxHeartbeats 2000000 in
theorem tacked_str (p : Nat) (t : ST) (lab : Nat → Lab) (a b : Nat) (f : Fr) (od : Option Addr) (n cd : Nat) (x : Bool × Nat × H1) (zs yz : List Rg) (at_ : Nat) (w : World) (h : StAt w p t lab a b) (hf : FrOk f) (hk : f.kd = 8) (hv : f.vd = .slice od n cd) (hn : n ≤ 9223372036854775807) (hx : t.find f.sid = some x) (hs : f.sid = x.2.2.s.id)
    (hyz : cutRaw (x.2.2.s.os.kn f.off n).1 (x.2.2.s.os.kn f.off n).2 x.2.2.s.os.ys = yz) (hly : yz.length ≤ 100000) (hzs : x.2.2.s.os.ackX (x.2.2.s.os.kn f.off n) = zs) (hnz : Norm zs) (hlz : zs.length ≤ 100000) (hat : atOf zs x.2.2.s.os.B.length = at_) (hat1 : x.2.2.s.os.base ≤ at_) (hat2 : at_ ≤ x.2.2.s.os.B.length) :
    Calls Tryz.prog 10 #[.pointer (some ⟨p, 0, none⟩), .agg (encF f).toArray] w fun e w' => e = .returned (.tuple #[]) ∧ ∃ lab', StAt w' p (t.put x.1 x.2.1 ⟨x.2.2.id, x.2.2.s.ackd (x.2.2.s.os.ackG zs yz at_ f.fin), x.2.2.r⟩) lab' a b ∧ Went (fun k => lab k ≠ .out) (fun k => lab' k ≠ .out) w w' := by
  obtain ⟨kd, sid, off, vd, fin, lim, code, fnl, seq, dly, vr, e0, e1, e2, e3, e4, e5, e6, e7⟩ := f
  obtain rfl : vd = .slice od n cd := hv
  obtain rfl : kd = 8 := hk
  obtain ⟨o, i, hh⟩ := x
  simp only at *
  obtain ⟨W1, hW1⟩ : ∃ W1, W1 = w.alloc (.cells (encF ⟨8, sid, off, .slice od n cd, fin, lim, code, fnl, seq, dly, vr, e0, e1, e2, e3, e4, e5, e6, e7⟩).toArray 46) := ⟨_, rfl⟩
  have hb1 : Below w.heap.size w W1 := by rw [hW1]; exact (Below.refl _ _).alloc (Nat.le_refl _) _
  have hzf : W1.heap[w.heap.size]? = some (.cells (encF ⟨8, sid, off, .slice od n cd, fin, lim, code, fnl, seq, dly, vr, e0, e1, e2, e3, e4, e5, e6, e7⟩).toArray 46 (0, 0)) := by rw [hW1]; exact alloc_at _ _
  have HB1 := Lib.hid hb1
  have HZ1 := Lib.hid hzf
  have H1 := Lib.hid (h.below hb1)
  have z1 : W1.cell? ⟨w.heap.size, 1, none⟩ = some (.int .u64 sid) := (cell_at hzf 1).trans rfl
  have hsid := hf.sid
  simp only at hsid
  have HFO := Lib.hid hf
  have HSI := Lib.hid hs
  have HZ := Lib.hid (And.intro hyz (And.intro hly (And.intro hzs (And.intro hnz (And.intro hlz (And.intro hat (And.intro hat1 hat2)))))))
  have HFI := Lib.hid hx
  clear h hb1 hf hs hzf hyz hly hzs hnz hlz hat hat1 hat2 hx
  simp only [encF] at hW1 HZ1 ⊢
  go_enter Tryz.func10, Tryz.ntmps10
  go_upto_region 1 with fail
  rw [← hW1]
  clear hW1
  obtain ⟨z, hz⟩ : ∃ z, w.heap.size = z := ⟨_, rfl⟩
  rw [hz] at HZ1 z1 ⊢
  clear hz
  go_wp2_with fail
  refine (tfind_q p t lab a b sid _ (by exact H1.out) hsid).mono ?_
  rintro e w1 ⟨v, rfl, hv, n1, rfl⟩
  rcases hv with ⟨hfn, _⟩ | ⟨o', i', hh', y, hfn, hya, _, rfl⟩
  · rw [HFI.out] at hfn
    cases hfn
  rw [HFI.out] at hfn
  cases hfn
  obtain ⟨bs, br, fs, fr, hyb, hsd, hrc, lfs, lfr, tS, tR⟩ := H1.out.turn (ST.find_at HFI.out) hya
  have y1 : (W1.drewN n1).cell? ⟨y, 1, none⟩ = some (.pointer (some ⟨bs, 0, none⟩)) := (cell_at hyb 1).trans rfl
  have hz1 := HZ1.out
  have hz1 : (W1.drewN n1).heap[z]? = _ := hz1
  have HS := Lib.hid (show SdAt (W1.drewN n1).drew bs hh.s fs from hsd.below (below_drewN (Below.refl _ _) n1).drew)
  have HFIN := Lib.hid (show ∀ w4, SdM (W1.drewN n1).drew w4 fs bs (hh.s.ackd (hh.s.os.ackG zs yz at_ fin)) → ∃ lab', StAt w4 p (t.put o i ⟨hh.id, hh.s.ackd (hh.s.os.ackG zs yz at_ fin), hh.r⟩) lab' a b ∧ Went (fun k => lab k ≠ .out) (fun k => lab' k ≠ .out) w w4 from fun w4 hm => by
    obtain ⟨fp', m1, m2⟩ := hm
    obtain ⟨lab', q1, q2, _⟩ := tS w4 _ ⟨fp', m1, m2.first (below_drewN (Below.refl _ _) n1).drew⟩ rfl
    exact ⟨lab', q1, q2.first HB1.out⟩)
  clear hyb hsd hrc lfs lfr tS tR hya
  go_upto_region 3 with fail
  refine wp_region_till (S := fun w' => w'.cell? ⟨y, 1, none⟩ = some (.pointer (some ⟨bs, 0, none⟩)) ∧ w'.heap[z]? = some (.cells #[.int .i64 8, .int .u64 sid, .int .u64 off, .slice od n cd, .bool fin, .int .u64 lim, .int .u64 code, .int .u64 fnl, .int .u64 seq, .int .u64 dly, vr, .int .u8 e0, .int .u8 e1, .int .u8 e2, .int .u8 e3, .int .u8 e4, .int .u8 e5, .int .u8 e6, .int .u8 e7] 46 (0, 0))) [5] (by kernel_rfl) (by exact ⟨y1, hz1⟩) (fun hHeld => ?_)
  refine wpTill_take0 (i := 0) (oi := ⟨some 11, _, _, _, _, _⟩) (v := ?_) rfl (by kernel_rfl) (fun _ _ _ h => h) (Or.inl ⟨by rfl, ?_⟩) (fun _ => hHeld) ?_
  rotate_left
  · intro w hSw
    (try dsimp only at hSw)
    go_simp
    try with_reducible rfl
  try simp only [Act.put, List.setIfInBounds_toArray, List.set_cons_zero, List.set_cons_succ]
  refine wpTill_take0 (i := 1) (oi := ⟨some 12, _, _, _, _, _⟩) (v := ?_) rfl (by kernel_rfl) (fun _ _ _ h => h) (Or.inl ⟨by rfl, ?_⟩) (fun _ => hHeld) ?_
  rotate_left
  · intro w hSw
    (try dsimp only at hSw)
    go_simp
    try with_reducible rfl
  try simp only [Act.put, List.setIfInBounds_toArray, List.set_cons_zero, List.set_cons_succ]
  refine wpTill_take0 (i := 2) (oi := ⟨some 13, _, _, _, _, _⟩) (v := ?_) rfl (by kernel_rfl) (fun _ _ _ h => h) (Or.inl ⟨by rfl, ?_⟩) (fun _ => hHeld) ?_
  rotate_left
  · intro w hSw
    (try dsimp only at hSw)
    go_simp
    try with_reducible rfl
  try simp only [Act.put, List.setIfInBounds_toArray, List.set_cons_zero, List.set_cons_succ]
  refine wpTill_take (i := 3) (oi := ⟨some 14, _, _, _, _, _⟩) (v := ?_) rfl (by kernel_rfl) (fun _ _ _ h => h) (Or.inl ⟨by rfl, ?_⟩) (by exact hHeld) ?_
  rotate_left
  · intro w hSw
    (try dsimp only at hSw)
    go_simp
    try with_reducible rfl
  try simp only [Act.put, List.setIfInBounds_toArray, List.set_cons_zero, List.set_cons_succ]
  refine wpTill_take (i := 4) (oi := ⟨some 15, _, _, _, _, _⟩) (v := (.agg #[.int .i64 8, .int .u64 sid, .int .u64 off, .slice od n cd, .bool fin, .int .u64 lim, .int .u64 code, .int .u64 fnl, .int .u64 seq, .int .u64 dly, vr, .int .u8 e0, .int .u8 e1, .int .u8 e2, .int .u8 e3, .int .u8 e4, .int .u8 e5, .int .u8 e6, .int .u8 e7])) rfl (by kernel_rfl) (fun _ _ _ h => h) (Or.inl ⟨by rfl, ?_⟩) (by exact hHeld) ?_
  · intro w hSw
    exact exec_load_row 46 (.tmp 3) rfl z rfl 46 _ (0, 0) _ hSw.2 Tryz.underlying46 rfl (by rw [sizeF]; rfl)
  try simp only [Act.put, List.setIfInBounds_toArray, List.set_cons_zero, List.set_cons_succ]
  refine wpTill_ready (rs := [5]) (by kernel_rfl) (by simp) ?_
  refine AllTill.consD (o := ⟨some 16, _, _, _, _, _⟩) rfl (by kernel_rfl) (fun K hK => ?_) AllTill.nil
  rw [if_pos (show Region.wanted _ _ = true from rfl)]
  go_simp
  go_at_call 31
  refine (sack_str bs hh.s fs ⟨8, sid, off, .slice od n cd, fin, lim, code, fnl, seq, dly, vr, e0, e1, e2, e3, e4, e5, e6, e7⟩ off n cd fin od zs yz at_ _ (by exact HS.out) HFO.out rfl HSI.out rfl rfl rfl hn HZ.out.1 HZ.out.2.1 HZ.out.2.2.1 HZ.out.2.2.2.1 HZ.out.2.2.2.2.1 HZ.out.2.2.2.2.2.1 HZ.out.2.2.2.2.2.2.1 HZ.out.2.2.2.2.2.2.2).mono ?_
  rintro e w4 ⟨rfl, hm⟩
  have HM := Lib.hid hm
  clear hm
  go_simp
  refine hK.out _ _ ?_
  clear hK K
  try simp only [Act.put, List.setIfInBounds_toArray, List.set_cons_zero, List.set_cons_succ]
  refine wpTill_done (by kernel_rfl) ?_ _
  go_wp2_with fail
  refine bodyPost_end (results_none rfl _ _ _) rfl ?_
  exact ⟨rfl, HFIN.out _ HM.out⟩

set_option maxRecDepth 100000 in
set_option maxHeartbeats 1000000 in
theorem tread_none (p : Nat) (t : ST) (lab : Nat → Lab) (a b id : Nat) (m : Int) (w : World) (h : StAt w p t lab a b) (hid : id < 18446744073709551616) (hx : t.find id = none) :
    Calls Tryz.prog 11 #[.pointer (some ⟨p, 0, none⟩), .int .u64 id, .int .i64 m] w fun e w' => e = .returned (.tuple #[.slice none 0 0, .bool false, .int .u64 0, .int .i64 22]) ∧ ∃ n, w' = w.drewN n := by
  have H := Lib.hid h
  have HFI := Lib.hid hx
  clear h hx
  go_enter Tryz.func11, Tryz.ntmps11
  go_wp2_with fail
  refine (tfind_q p t lab a b id _ (by exact H.out) hid).mono ?_
  rintro e w1 ⟨v, rfl, hv, n1, rfl⟩
  rcases hv with ⟨_, rfl⟩ | ⟨o', i', hh', y, hfn, _⟩
  · go_wp2_with fail
    refine bodyPost_ret (results_tmp4 rfl _ _ _) rfl ?_
    exact ⟨rfl, n1, rfl⟩
  · rw [HFI.out] at hfn
    cases hfn
theorem VwA.all {α : Type} {enc : α → List Value} {w : World} {v : Value} {xs : List α} {fp : Nat → Prop} (h : VwA enc fp w v xs) : Vw enc w w.heap.size v xs := by
  obtain ⟨oa, cap, h1, h2, h3, h4⟩ := h
  refine ⟨oa, cap, h1, h2, h3, ?_⟩
  rcases h4 with h4 | ⟨b, off, h4, h5, _, h7⟩
  · exact .inl h4
  · exact .inr ⟨b, off, h4, h5, h7⟩
def rdErr (n : Nat) (la : Bool) : Int := if n = 0 ∧ la = false then 26 else 0
set_option maxRecDepth 100000 in
set_option maxHeartbeats 1000000 in
theorem tread_some (p : Nat) (t : ST) (lab : Nat → Lab) (a b id : Nat) (m : Int) (x : Bool × Nat × H1) (n : Nat) (w : World) (h : StAt w p t lab a b) (hid : id < 18446744073709551616) (hx : t.find id = some x) (hst : x.2.2.r.st ≤ 3) (hm : -9223372036854775808 ≤ m) (hm2 : m ≤ 9223372036854775807) (hn : x.2.2.r.ib.num m = n) :
    Calls Tryz.prog 11 #[.pointer (some ⟨p, 0, none⟩), .int .u64 id, .int .i64 m] w fun e w' => ∃ oa cap, e = .returned (.tuple #[.slice oa n cap, .bool (x.2.2.r.ib.take n).last, .int .u64 0, .int .i64 (rdErr n (x.2.2.r.ib.take n).last)]) ∧
      Vw encB w' w'.heap.size (.slice oa n cap) (x.2.2.r.ib.out n) ∧ ∃ lab', StAt w' p (t.put x.1 x.2.1 ⟨x.2.2.id, x.2.2.s, x.2.2.r.tk n⟩) lab' a b ∧ Went (fun k => lab k ≠ .out) (fun k => lab' k ≠ .out) w w' := by
  have H := Lib.hid h
  have HFI := Lib.hid hx
  clear h hx
  obtain ⟨o, i, hh⟩ := x
  simp only at *
  have HST := Lib.hid hst
  have HNM := Lib.hid hn
  clear hst hn
  go_enter Tryz.func11, Tryz.ntmps11
  go_wp2_with fail
  refine (tfind_q p t lab a b id _ (by exact H.out) hid).mono ?_
  rintro e w1 ⟨v, rfl, hv, n1, rfl⟩
  rcases hv with ⟨hfn, _⟩ | ⟨o', i', hh', y, hfn, hya, _, rfl⟩
  · rw [HFI.out] at hfn
    cases hfn
  rw [HFI.out] at hfn
  cases hfn
  obtain ⟨bs, br, fs, fr, hyb, hsd, hrc, lfs, lfr, tS, tR⟩ := H.out.turn (ST.find_at HFI.out) hya
  have y2 : (w.drewN n1).cell? ⟨y, 2, none⟩ = some (.pointer (some ⟨br, 0, none⟩)) := (cell_at hyb 2).trans rfl
  have HR := Lib.hid (hrc.drewN n1)
  have HFIN := Lib.hid (show ∀ w4, RM (w.drewN n1) w4 fr br (hh.r.tk n) → ∃ lab', StAt w4 p (t.put o i ⟨hh.id, hh.s, hh.r.tk n⟩) lab' a b ∧ Went (fun k => lab k ≠ .out) (fun k => lab' k ≠ .out) w w4 from fun w4 hm => by
    obtain ⟨fp', m1, m2⟩ := hm
    obtain ⟨lab', q1, q2, _⟩ := tR w4 _ ⟨fp', m1, m2.first (below_drewN (Below.refl _ _) n1)⟩ rfl
    exact ⟨lab', q1, q2⟩)
  clear hyb hsd hrc lfs lfr tS tR hya
  go_wp2_with fail
  refine (rread_any br hh.r fr m _ (by exact HR.out) HST.out hm hm2 HNM.out).mono ?_
  rintro e w4 ⟨v, fp', rfl, h1, h2, h3⟩
  have hfl := out_len (s := hh.r.ib) (n := n) (by rw [← HNM.out]; exact IB.num_le _ _)
  have HV := Lib.hid h3.all
  obtain ⟨oa, cap, rfl, _, _⟩ := h3.shape
  rw [hfl] at HV ⊢
  have HF := Lib.hid (HFIN.out _ ⟨fp', h1, h2⟩)
  obtain ⟨la, hla⟩ : ∃ la, (hh.r.ib.take n).last = la := ⟨_, rfl⟩
  rw [hla]
  obtain ⟨ee, hee⟩ : ∃ ee : Int, rdErr n la = ee := ⟨_, rfl⟩
  rw [show (if n = 0 ∧ la = false then (26 : Int) else 0) = rdErr n la from rfl, hee]
  have HLE := Lib.hid (And.intro hla hee)
  clear h1 h2 h3 hla hee
  go_wp2_with fail
  refine bodyPost_ret (results_tmp4 rfl _ _ _) rfl ?_
  exact ⟨oa, cap, by rw [HLE.out.1, HLE.out.2]; rfl, HV.out, HF.out⟩
end Go.Proofs.YtnneoeimgbemfaaGreat

/- DERIVED. streams: Next's second loop, plain. -/
namespace Go.Proofs.YtnneoeimgbemfaaGreat
open Go.RowKit

theorem NL.sndTurn {w wA wx : World} {p : Nat} {t : ST} {lab lab' : Nat → Lab} {a b y : Nat} {v : Value} {og : Option Nat} {zs : List (Option Nat)} (h : NL w wA wx p t lab lab' a b y v og zs) {x : Bool × Nat × H1} {yj bs : Nat}
    (hhs : (t.hs x.1)[x.2.1]? = some x.2.2) (hyat : Yat wA (if x.1 then a else b) x.2.1 yj) (hc : wx.cell? ⟨yj, 1, none⟩ = some (.pointer (some ⟨bs, 0, none⟩))) :
    ∃ fs, SdAt wx bs x.2.2.s fs ∧ ∀ w' s', SdM wx w' fs bs s' → s'.id = x.2.2.s.id → ∃ lab2, NL w wA w' p (t.put x.1 x.2.1 ⟨x.2.2.id, s', x.2.2.r⟩) lab lab2 a b y v og zs ∧ Went (fun k => lab' k ≠ .out) (fun k => lab2 k ≠ .out) wx w' ∧ w'.cell? ⟨yj, 1, none⟩ = some (.pointer (some ⟨bs, 0, none⟩)) ∧ w'.cell? ⟨p, 30, none⟩ = some (.int .u64 t.allowed) := by
  obtain ⟨y0, hy0, hst⟩ := h.st.pick hhs
  obtain rfl := hy0.same (h.yk _ _ _ hyat)
  obtain ⟨_, _, _, _, _, hly, _⟩ := hst
  obtain ⟨bs', br, fs, fr, hyb, hsd, hrc, lfs, lfr, tS, tR⟩ := h.st.turn hhs (h.yk _ _ _ hyat)
  obtain rfl : bs' = bs := by
    have q := (cell_at hyb 1).symm.trans hc
    simpa using q
  refine ⟨fs, hsd, fun w' s' hm hid => ?_⟩
  have k := tS w' s' hm hid
  obtain ⟨lab2, k1, k2, k3⟩ := k
  obtain ⟨q1, _⟩ := NL.turn h ⟨lab2, k1, k2, k3⟩
  refine ⟨lab2, ⟨k1, h.went.trans k2, k2.upd.keeps h.hy (fun q => q h.yo), out_went k2 h.yo (heap_lt h.hy), h.yk.trans k3, h.sl.keeps k2.upd (fun g hg q => q (h.so g hg)), fun g hg => out_went k2 (h.so g hg) (h.sl.lt g hg), h.ly⟩, k2, ?_, ?_⟩
  · obtain ⟨fs', _, m2⟩ := hm
    exact (cell_at (m2.upd.keeps hyb (fun q => by have := lfs _ q; rw [hly] at this; cases this)) 1).trans rfl
  · refine (k1.cell 30).trans ?_
    rw [tcells_put]
    rfl
/-- A box for a frame, yet empty. -/
structure NBox (w wx : World) (lb : Nat → Lab) (y z : Nat) : Prop where
  hz : wx.heap[z]? = some (.cells (encF zeroF).toArray 46 (0, 0))
  zo : lb z = .out
  zy : z ≠ y
  zw : w.heap.size ≤ z
theorem NBox.later {w wx wy : World} {lb : Nat → Lab} {y z : Nat} (h : NBox w wx lb y z) (hb : Below wx.heap.size wx wy) : NBox w wy lb y z :=
  ⟨below_keeps hb h.hz (heap_lt h.hz), h.zo, h.zy, h.zw⟩
theorem NBox.went {w wx wy : World} {lb lb' : Nat → Lab} {y z : Nat} (h : NBox w wx lb y z) (k : Went (fun k => lb k ≠ .out) (fun k => lb' k ≠ .out) wx wy) : NBox w wy lb' y z :=
  ⟨k.upd.keeps h.hz (fun q => q h.zo), out_went k h.zo (heap_lt h.hz), h.zy, h.zw⟩
theorem NL.alloc1 {w wA wx wy : World} {p : Nat} {t : ST} {lab lab' : Nat → Lab} {a b y : Nat} {v : Value} {og : Option Nat} {zs : List (Option Nat)} (h : NL w wA wx p t lab lab' a b y v og zs) (hy : wy = wx.alloc (.cells (encF zeroF).toArray 46)) :
    NL w wA wy p t lab lab' a b y v og zs ∧ NBox w wy lab' y wx.heap.size ∧ Below wx.heap.size wx wy := by
  subst hy
  have hb : Below wx.heap.size wx (wx.alloc (.cells (encF zeroF).toArray 46)) := (Below.refl _ _).alloc (Nat.le_refl _) _
  have hyl := heap_lt h.hy
  refine ⟨h.later hb, ⟨alloc_at wx _, ?_, by omega, h.went.upd.size⟩, hb⟩
  cases hq : lab' wx.heap.size with
  | out => rfl
  | _ => have := h.st.lt wx.heap.size (by rw [hq]; simp); omega
/-- What Next tells lies apart. -/
def NDat (w wx : World) (p y : Nat) (vd : Value) (data : List Nat) (F : Nat → Prop) : Prop := ∃ ogd, SlG encB 5 wx vd ogd data ∧ ∀ g, ogd = some g → w.heap.size ≤ g ∧ g ≠ p ∧ g ≠ y ∧ ¬ F g
theorem NDat.first {w wA wx wn : World} {p : Nat} {t : ST} {lab lab' : Nat → Lab} {a b y : Nat} {v : Value} {og : Option Nat} {zs : List (Option Nat)} (h : NL w wA wx p t lab lab' a b y v og zs) {vd : Value} {data : List Nat} {F : Nat → Prop} (hF : ∀ k, F k → k < wx.heap.size)
    (hd : ∃ ogd, SlG encB 5 wn vd ogd data ∧ ∀ g, ogd = some g → wx.heap.size ≤ g) : NDat w wn p y vd data F := by
  obtain ⟨ogd, h1, h2⟩ := hd
  have hp := heap_lt h.st.blk
  have hy := heap_lt h.hy
  have hs := h.went.upd.size
  refine ⟨ogd, h1, fun g hg => ?_⟩
  have q := h2 g hg
  exact ⟨by omega, by omega, by omega, fun e => by have := hF g e; omega⟩
theorem NDat.below {w wx wy : World} {p y : Nat} {vd : Value} {data : List Nat} {F : Nat → Prop} (h : NDat w wx p y vd data F) (hb : Below wx.heap.size wx wy) {z : Nat} (hz : z = wx.heap.size) : NDat w wy p y vd data (fun k => k = z) := by
  obtain ⟨ogd, h1, h2⟩ := h
  refine ⟨ogd, h1.below hb, fun g hg => ?_⟩
  obtain ⟨q1, q2, q3, _⟩ := h2 g hg
  have := h1.lt g hg
  exact ⟨q1, q2, q3, fun e => by omega⟩
theorem NDat.fill {w wx : World} {p y z : Nat} {vd : Value} {data : List Nat} (h : NDat w wx p y vd data (fun k => k = z)) (cs : Array Value) : NDat w (wx.setRow z cs) p y vd data (fun k => k = z) := by
  obtain ⟨ogd, h1, h2⟩ := h
  have hu : Upd (fun j => j = z) wx (wx.setRow z cs) := (Upd.refl (fun j => j = z) wx).setRowN z (.inl rfl) cs
  exact ⟨ogd, h1.keeps hu (fun g hg => (h2 g hg).2.2.2), h2⟩
theorem tcells_last (t : ST) (a b id : Nat) : ((tcells t a b).setIfInBounds 26 (.int .u64 id)).setIfInBounds 27 (.bool true) = tcells { t with last := id, told := true } a b := by
  unfold tcells
  simp only [List.setIfInBounds_toArray, List.set_cons_zero, List.set_cons_succ]
/-- Behind the last stream's mark. -/
structure LastF (w wx : World) (p : Nat) (t : ST) (lab lab' : Nat → Lab) (a b y z id : Nat) (vd : Value) (data : List Nat) (cs : Array Value) : Prop where
  c26 : wx.cell? ⟨p, 26, none⟩ = some (.int .u64 t.last)
  f26 : wx.frozen? ⟨p, 26, none⟩ = false
  f27 : (wx.setCell ⟨p, 26, none⟩ (.int .u64 id)).frozen? ⟨p, 27, none⟩ = false
  c27 : (wx.setCell ⟨p, 26, none⟩ (.int .u64 id)).cell? ⟨p, 27, none⟩ = some (.bool t.told)
  hz : ((wx.setCell ⟨p, 26, none⟩ (.int .u64 id)).setCell ⟨p, 27, none⟩ (.bool true)).heap[z]? = some (.cells cs 46 (0, 0))
  hy : ((wx.setCell ⟨p, 26, none⟩ (.int .u64 id)).setCell ⟨p, 27, none⟩ (.bool true)).heap[y]? = some (.cells (encF zeroF).toArray 46 (0, 0))
  fin : ∀ cs2, StAt (((wx.setCell ⟨p, 26, none⟩ (.int .u64 id)).setCell ⟨p, 27, none⟩ (.bool true)).setRow y cs2) p { t with last := id, told := true } lab' a b ∧
    Went (fun k => lab k ≠ .out) (fun k => lab' k ≠ .out) w (((wx.setCell ⟨p, 26, none⟩ (.int .u64 id)).setCell ⟨p, 27, none⟩ (.bool true)).setRow y cs2) ∧
    ∃ ogd, SlG encB 5 (((wx.setCell ⟨p, 26, none⟩ (.int .u64 id)).setCell ⟨p, 27, none⟩ (.bool true)).setRow y cs2) vd ogd data ∧ ∀ g, ogd = some g → w.heap.size ≤ g
theorem last_facts {w wA wx : World} {p : Nat} {t : ST} {lab lab' : Nat → Lab} {a b y z id : Nat} {v vd : Value} {og : Option Nat} {zs : List (Option Nat)} {data : List Nat} {cs : Array Value} {F : Nat → Prop} (h : NL w wA wx p t lab lab' a b y v og zs)
    (hz : wx.heap[z]? = some (.cells cs 46 (0, 0))) (zo : lab' z = .out) (hd : NDat w wx p y vd data F) (hid : id < 18446744073709551616) : LastF w wx p t lab lab' a b y z id vd data cs := by
  have hst := h.st
  have s1 := set_at hst.blk 26 (.int .u64 id)
  have s2 := set_at s1 27 (.bool true)
  have hpy : p ≠ y := fun e => by have := h.yo; rw [← e, hst.lp] at this; cases this
  have hpz : p ≠ z := fun e => by rw [← e, hst.lp] at zo; cases zo
  have hu : Upd (fun j => j = p) wx ((wx.setCell ⟨p, 26, none⟩ (.int .u64 id)).setCell ⟨p, 27, none⟩ (.bool true)) := ((Upd.refl (fun j => j = p) _).setCell ⟨p, 26, none⟩ (.inl rfl) _).setCell ⟨p, 27, none⟩ (.inl rfl) _
  refine ⟨(hst.cell 26).trans rfl, free_at hst.blk 26, free_at s1 27, ?_, hu.keeps hz (fun e => hpz e.symm), hu.keeps h.hy (fun e => hpy e.symm), fun cs2 => ?_⟩
  · refine (cell_at s1 27).trans ?_
    rw [Array.getElem?_setIfInBounds_ne (by omega)]
    rfl
  · have hu2 : Upd (fun j => j = p ∨ j = y) wx (((wx.setCell ⟨p, 26, none⟩ (.int .u64 id)).setCell ⟨p, 27, none⟩ (.bool true)).setRow y cs2) := (hu.mono (G := fun j => j = p ∨ j = y) (fun k _ q => Or.inl q)).setRowN y (.inl (.inr rfl)) cs2
    have hn : ∀ l k, (k = p ∨ k = y) → l ≠ Lab.set → l ≠ Lab.out → lab' k ≠ l := fun l k hk h1 h2 e => by
      rcases hk with rfl | rfl
      · rw [hst.lp] at e
        exact h1 e.symm
      · rw [h.yo] at e
        exact h2 e.symm
    refine ⟨⟨?_, hst.lp, hst.own.keeps hu2 (fun k hk => ⟨hn _ k hk (by simp) (by simp), hn _ k hk (by simp) (by simp), fun i => ⟨hn _ k hk (by simp) (by simp), hn _ k hk (by simp) (by simp), hn _ k hk (by simp) (by simp)⟩⟩),
      hst.others.keeps hu2 (fun k hk => ⟨hn _ k hk (by simp) (by simp), hn _ k hk (by simp) (by simp), fun i => ⟨hn _ k hk (by simp) (by simp), hn _ k hk (by simp) (by simp), hn _ k hk (by simp) (by simp)⟩⟩), fun k hk => by have := hst.lt k hk; have := hu2.size; omega,
      ⟨hst.ok.mine, hst.ok.theirs, hst.ok.rest, hst.ok.own, hst.ok.others, hst.ok.hown, hst.ok.hothers, hid, hst.ok.limit, hst.ok.allowed⟩⟩, ?_, ?_⟩
    · rw [setRow_other _ _ _ _ (fun e => hpy e)]
      exact s2.trans (by rw [tcells_last])
    · have hpl : lab' p ≠ .out := by rw [hst.lp]; simp
      refine ⟨h.went.upd.trans hu2 (fun k _ q => q) (fun k hk q => ?_), h.went.new⟩
      rcases q with rfl | rfl
      · rcases h.went.new k hpl with q | q
        · exact q
        · omega
      · have := h.ly
        omega
    · obtain ⟨ogd, d1, d2⟩ := hd
      exact ⟨ogd, d1.keeps hu2 (fun g hg q => by
        obtain ⟨_, e2, e3, _⟩ := d2 g hg
        rcases q with q | q
        · exact e2 q
        · exact e3 q), fun g hg => (d2 g hg).1⟩
theorem cells2_below {w wx : World} {a1 b1 o1 o2 : Nat} {v1 v2 : Value} (h : w.cell? ⟨a1, o1, none⟩ = some v1 ∧ w.cell? ⟨b1, o2, none⟩ = some v2) (hb : Below w.heap.size w wx) : wx.cell? ⟨a1, o1, none⟩ = some v1 ∧ wx.cell? ⟨b1, o2, none⟩ = some v2 :=
  ⟨cell_keep hb (cell_lt1 h.1) h.1, cell_keep hb (cell_lt1 h.2) h.2⟩
theorem ST.id_lt {t : ST} (k : t.Ok) {x : Bool × Nat × H1} (hx : (t.hs x.1)[x.2.1]? = some x.2.2) : x.2.2.id < 18446744073709551616 := by
  obtain ⟨o, i, h⟩ := x
  have hr := k.rest
  cases o
  · have hi : i < t.others.length := (List.getElem?_eq_some_iff.1 hx).1
    have := (k.hothers i h hx).id
    have := k.others
    show h.id < _
    omega
  · have hi : i < t.own.length := (List.getElem?_eq_some_iff.1 hx).1
    have := (k.hown i h hx).id
    have := k.own
    show h.id < _
    omega
end Go.Proofs.YtnneoeimgbemfaaGreat
