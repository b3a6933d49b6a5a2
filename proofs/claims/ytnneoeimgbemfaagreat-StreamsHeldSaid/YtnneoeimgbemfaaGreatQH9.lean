/- DERIVED. Plain: the ranges that came, and what lies there. -/
import Derived.Deep.DeepCutAuto
import Derived.Deep.CutBlock
import Derived.Deep.RegionHeld3
import Derived.Test.YtnneoeimgbemfaaGreatQH3
import Derived.Test.YtnneoeimgbemfaaGreatQH5
import Derived.Test.YtnneoeimgbemfaaGreatQH7
import Derived.Test.YtnneoeimgbemfaaGreatQH8
set_option linter.all false
namespace Go.Proofs.YtnneoeimgbemfaaGreat

theorem norm_count : ∀ (xs : List Rg) (a b : Nat), Norm xs → (∀ r ∈ xs, a ≤ r.1 ∧ r.2 ≤ b) → 2 * xs.length ≤ (b - a) + 1
  | [], _, _, _, _ => by simp
  | r :: xs, a, b, hn, h => by
    obtain ⟨⟨h1, h2⟩, h3⟩ := hn.head
    obtain ⟨h4, h5⟩ := h r (List.mem_cons_self ..)
    have ih := norm_count xs (r.2 + 1) b hn.tail (fun x hx => by
      have := h3 x hx
      have := h x (List.mem_cons_of_mem _ hx)
      omega)
    simp only [List.length_cons]
    cases xs with
    | nil => simp; omega
    | cons y ys =>
      have := h3 y (List.mem_cons_self ..)
      have := h y (by simp)
      have := hn.tail.head.1.1
      simp only [List.length_cons] at *
      omega
theorem mem_in {xs : List Rg} {r : Rg} (hr : r ∈ xs) {k : Nat} (h1 : r.1 ≤ k) (h2 : k < r.2) : mem xs k = true :=
  List.any_eq_true.2 ⟨r, hr, by simp [hasP, h1, h2]⟩
theorem mem_end : ∀ {xs : List Rg}, Norm xs → ∀ {r : Rg}, r ∈ xs → mem xs r.2 = false
  | [], _, r, h => by simp at h
  | x :: xs, hn, r, h => by
    obtain ⟨⟨h1, h2⟩, h3⟩ := hn.head
    have e : mem (x :: xs) r.2 = (hasP r.2 x || mem xs r.2) := by simp [mem]
    rw [e]
    rcases List.mem_cons.1 h with rfl | h
    · rw [mem_lo hn.tail h3 (Nat.le_refl _)]
      simp [hasP]
    · rw [mem_end hn.tail h]
      have := h3 r h
      have := hn.tail.1 r h
      simp [hasP]
      omega
theorem mem_of {xs : List Rg} {k : Nat} (h : mem xs k = true) : ∃ r ∈ xs, r.1 ≤ k ∧ k < r.2 := by
  obtain ⟨r, hr, h2⟩ := List.any_eq_true.1 h
  simp [hasP] at h2
  exact ⟨r, hr, h2⟩
/-- Where all below lies in it, and nothing from a bound on, there are few ranges. -/
theorem few_of {xs : List Rg} (hn : Norm xs) {a b : Nat} (h1 : ∀ k, k < a → mem xs k = true) (h2 : ∀ k, b ≤ k → mem xs k = false) : 2 * xs.length ≤ (b - a) + 3 := by
  have hb : ∀ r ∈ xs, r.2 ≤ b := by
    intro r hr
    rcases Nat.lt_or_ge b r.2 with h | h
    · have h3 := hn.1 r hr
      have := mem_in hr (k := r.2 - 1) (by omega) (by omega)
      rw [h2 _ (by omega)] at this
      cases this
    · exact h
  cases xs with
  | nil => simp
  | cons r xs =>
    obtain ⟨⟨h3, h4⟩, h5⟩ := hn.head
    have hr : a ≤ r.2 := by
      rcases Nat.lt_or_ge r.2 a with h | h
      · have := h1 _ h
        rw [mem_end hn (List.mem_cons_self ..)] at this
        cases this
      · exact h
    have := norm_count xs (r.2 + 1) b hn.tail (fun x hx => by
      have := h5 x hx
      have := hb x (List.mem_cons_of_mem _ hx)
      omega)
    have := hb r (List.mem_cons_self ..)
    simp only [List.length_cons]
    omega

/-- The ranges say what came. -/
def CameIs (s : IB) (xs : List Rg) : Prop := Norm xs ∧ ∀ k, mem xs k = s.came k
theorem CameIs.zero : CameIs IB.zero [] := ⟨⟨by simp, by simp⟩, fun k => by simp [mem, IB.came, IB.zero, gt]⟩
theorem CameIs.few {s : IB} {xs : List Rg} (h : CameIs s xs) (hs : s.Ok) : xs.length ≤ 1026 := by
  have := few_of h.1 (a := s.rd) (b := s.rd + 2048) (fun k hk => by rw [h.2 k]; simp [IB.came, hk]) (fun k hk => by
    rw [h.2 k]
    have := hs.len
    simp only [IB.came, Bool.or_eq_false_iff, decide_eq_false_iff_not]
    exact ⟨by omega, by rw [gt_ge (by omega)]; rfl⟩)
  omega
theorem CameIs.put {s : IB} {xs : List Rg} (h : CameIs s xs) {off : Nat} {d : List Nat} {f : Bool} (hd : off < off + d.length) (he : off + d.length ≤ 4611686018427387904) : CameIs (s.put off d f) (addN xs (off, off + d.length)) := by
  refine ⟨addN_norm xs (off, off + d.length) hd he h.1, fun k => ?_⟩
  have h1 : mem (addN xs (off, off + d.length)) k = (hasP k (off, off + d.length) || mem xs k) := any_addN k xs _ hd h.1
  rw [h1, h.2 k]
  simp only [IB.came, IB.put]
  rw [gt_putN]
  by_cases hk : k < s.rd
  · simp [hk]
  · have e : s.rd + (k - s.rd) = k := by omega
    rw [e]
    by_cases hg : (gt s.L (k - s.rd)).isSome
    · simp [hg]
    · rw [if_neg hg]
      simp only [Bool.not_eq_true] at hg
      rw [hg]
      by_cases h2 : off ≤ k
      · rw [if_pos h2]
        by_cases h3 : k < off + d.length
        · rw [List.getElem?_eq_getElem (by omega)]
          simp [hasP, h2, h3]
        · rw [List.getElem?_eq_none (by omega)]
          simp [hasP, hk]
          omega
      · rw [if_neg h2]
        simp [hasP, hk]
        omega
theorem CameIs.put_nil {s : IB} {xs : List Rg} (h : CameIs s xs) {off : Nat} {f : Bool} : CameIs (s.put off [] f) xs := ⟨h.1, fun k => by rw [h.2 k]; simp [IB.came, IB.put, putN_nil]⟩
theorem came_take {s : IB} {n : Nat} (_hn : n ≤ rdy s.L) (k : Nat) : (s.take n).came k = (decide (k < s.rd + n) || s.came k) := by
  simp only [IB.came, IB.take]
  by_cases h1 : k < s.rd + n
  · simp [h1]
  · have e : n + (k - (s.rd + n)) = k - s.rd := by omega
    have h2 : ¬ k < s.rd := by omega
    rw [gt_drop, e]
    simp [h1, h2]
theorem CameIs.take {s : IB} {xs : List Rg} (h : CameIs s xs) {n : Nat} (hn : n ≤ rdy s.L) (hp : 0 < s.rd + n) (hb : s.rd + n ≤ 4611686018427387904) : CameIs (s.take n) (addN xs (0, s.rd + n)) := by
  refine ⟨addN_norm xs (0, s.rd + n) hp hb h.1, fun k => ?_⟩
  have h1 : mem (addN xs (0, s.rd + n)) k = (hasP k (0, s.rd + n) || mem xs k) := any_addN k xs _ hp h.1
  rw [h1, h.2 k, came_take hn]
  simp [hasP]
theorem CameIs.take_zero {s : IB} {xs : List Rg} (h : CameIs s xs) : CameIs (s.take 0) xs := ⟨h.1, fun k => by rw [h.2 k, came_take (by omega)]; simp [IB.came]⟩
/-- Where the bytes that are there end. -/
def readyOf (xs : List Rg) (rd : Nat) : Nat := match xs.find? (hasP rd) with | some r => r.2 | none => rd
theorem CameIs.ready {s : IB} {xs : List Rg} (h : CameIs s xs) : readyOf xs s.rd = s.rd + rdy s.L := by
  unfold readyOf
  cases hf : xs.find? (hasP s.rd) with
  | none =>
    have : mem xs s.rd = false := by
      unfold mem
      rw [List.any_eq_false]
      intro r hr
      have := List.find?_eq_none.1 hf r hr
      exact this
    rw [h.2] at this
    simp [IB.came] at this
    have e := rdy_is (L := s.L) (n := 0) (by intro j hj; omega) this
    simp only
    omega
  | some r =>
    have hr := List.mem_of_find?_eq_some hf
    have hp : hasP s.rd r = true := List.find?_some hf
    simp [hasP] at hp
    have e := rdy_is (L := s.L) (n := r.2 - s.rd) (by
      intro j hj
      have := mem_in hr (k := s.rd + j) (by omega) (by omega)
      rw [h.2] at this
      simp [IB.came] at this
      rcases this with h' | h'
      · omega
      · exact h') (by
      have := mem_end h.1 hr
      rw [h.2] at this
      simp [IB.came] at this
      simpa using this.2)
    simp only
    omega
end Go.Proofs.YtnneoeimgbemfaaGreat

/- DERIVED. The program's buffer in memory, and the document's: each reads as one state. -/
namespace Go.Proofs.YtnneoeimgbemfaaGreat
open Go.RowKit

/-- The program's buffer. -/
structure BufAt (w : World) (b : Nat) (s : IB) (c : Nat) (og : Option Nat) (xs : List Rg) (cs : Array Value) : Prop where
  blk : w.heap[b]? = some (.cells cs 118 (0, 0))
  size : cs.size = 2053
  c0 : cs[0]? = some (.int .u64 s.rd)
  c1 : cs[1]? = some (.int .u64 s.hi)
  c2 : cs[2]? = some (.int .u64 s.fin)
  c3 : cs[3]? = some (.bool s.kn)
  ring : ∀ j v, gt s.L j = some v → cs[4 + (s.rd + j) % 2048]? = some (.int .u8 v)
  c5 : cs[2052]? = some (.pointer (some ⟨c, 0, none⟩))
  came : SetAt w c 2048 og xs
  is : CameIs s xs
  ok : s.Ok
  ne : c ≠ b
  apart : og ≠ some b
def IbAt (w : World) (b : Nat) (s : IB) (fp : Nat → Prop) : Prop := ∃ c og xs cs, BufAt w b s c og xs cs ∧ fp = (fun j => j = b ∨ j = c ∨ og = some j)
theorem IbAt.keeps {F fp : Nat → Prop} {w w' : World} {b : Nat} {s : IB} (h : IbAt w b s fp) (hu : Upd F w w') (hF : ∀ k, fp k → ¬ F k) : IbAt w' b s fp := by
  obtain ⟨c, og, xs, cs, h, rfl⟩ := h
  exact ⟨c, og, xs, cs, ⟨hu.keeps h.blk (hF b (.inl rfl)), h.size, h.c0, h.c1, h.c2, h.c3, h.ring, h.c5, h.came.keeps hu (hF c (.inr (.inl rfl))) (fun g hg => hF g (.inr (.inr hg))), h.is, h.ok, h.ne, h.apart⟩, rfl⟩
theorem IbAt.lt {fp : Nat → Prop} {w : World} {b : Nat} {s : IB} (h : IbAt w b s fp) : fp b ∧ ∀ k, fp k → k < w.heap.size := by
  obtain ⟨c, og, xs, cs, h, rfl⟩ := h
  refine ⟨.inl rfl, ?_⟩
  obtain ⟨v, h1, h2, h3⟩ := h.came
  rintro k (rfl | rfl | hk)
  · exact heap_lt h.blk
  · exact heap_lt h1
  · exact h2.lt k hk
theorem IbAt.below {fp : Nat → Prop} {w w' : World} {b : Nat} {s : IB} (h : IbAt w b s fp) (hb : Below w.heap.size w w') : IbAt w' b s fp :=
  h.keeps (Upd.below hb) (fun k hk => by have := h.lt.2 k hk; omega)
theorem IbAt.drew {fp : Nat → Prop} {w : World} {b : Nat} {s : IB} (h : IbAt w b s fp) : IbAt w.drew b s fp := h.below (Below.refl _ _).drew
theorem IbAt.drewN {fp : Nat → Prop} {w : World} {b : Nat} {s : IB} (h : IbAt w b s fp) (n : Nat) : IbAt (w.drewN n) b s fp := h.below (below_drewN (Below.refl _ _) n)
theorem IbAt.ok {fp : Nat → Prop} {w : World} {b : Nat} {s : IB} (h : IbAt w b s fp) : s.Ok := by
  obtain ⟨c, og, xs, cs, h, rfl⟩ := h
  exact h.ok
end Go.Proofs.YtnneoeimgbemfaaGreat

/- DERIVED. Walk of inbuf's New. -/
namespace Go.Proofs.YtnneoeimgbemfaaGreat
open Go.RowKit

noncomputable def hasLen : List Value → Nat → Bool := List.rec (fun n => match n with | 0 => true | _ + 1 => false) (fun _ _ ih n => match n with | 0 => false | m + 1 => ih m)
theorem hasLen_eq : ∀ (l : List Value) (n : Nat), hasLen l n = true → l.length = n
  | [], 0, _ => rfl
  | [], n + 1, h => by cases h
  | a :: l, 0, h => by cases h
  | a :: l, n + 1, h => by
    have := hasLen_eq l n h
    simp [this]
theorem infoBuf : (Tryz.prog.info? 118).map (fun i => match i.zero with | some (.agg cs) => (hasLen cs.toList 2053, cs.toList.take 4) | _ => (false, [])) = some (true, [.int .u64 0, .int .u64 0, .int .u64 0, .bool false]) := by kernel_rfl
theorem zeroBuf : ∃ Z : Array Value, (∀ w : World, (zeroValue 118).run Tryz.prog w = .ok (.agg Z) w) ∧ Z.size = 2053 ∧ Z.toList.take 4 = [.int .u64 0, .int .u64 0, .int .u64 0, .bool false] := by
  have h := infoBuf
  cases hi : Tryz.prog.info? 118 with
  | none => rw [hi] at h; cases h
  | some i =>
    rw [hi] at h
    simp only [Option.map_some, Option.some.injEq] at h
    split at h
    · rename_i cs hc
      obtain ⟨h1, h2⟩ := Prod.mk.injEq .. ▸ h
      exact ⟨cs, fun w => by simp [zeroValue, typeInfo, hi, hc], by simpa using hasLen_eq _ _ h1, h2⟩
    · cases h

set_option maxRecDepth 100000 in
set_option maxHeartbeats 400000 in
theorem bnew_any (w : World) : Calls Tryz.prog 59 #[] w fun e w' => ∃ b fp, e = .returned (.pointer (some ⟨b, 0, none⟩)) ∧ IbAt w' b IB.zero fp ∧ (∀ k, fp k → w.heap.size ≤ k) ∧ Below w.heap.size w w' := by
  obtain ⟨Z, hZ, hsz, hZ2⟩ := zeroBuf
  have HZ := Lib.hid hZ2
  clear hZ2
  go_enter Tryz.func59, Tryz.ntmps59
  go_wp2_with fail
  refine (snew_any 2048 _).mono ?_
  rintro e w1 ⟨c, rfl, hb1, hs, hb⟩
  rw [show mostOf 2048 = 2048 from rfl] at hs
  have HS := Lib.hid hs
  have HB := Lib.hid hb
  clear hs hb
  go_wp2_with fail
  go_ret
  have e : ∀ i, i < 4 → (Z.setIfInBounds 2052 (.pointer (some ⟨c, 0, none⟩)))[i]? = ([.int .u64 0, .int .u64 0, .int .u64 0, .bool false] : List Value)[i]? := by
    intro i hi
    rw [Array.getElem?_setIfInBounds, if_neg (by omega), ← HZ.out, List.getElem?_take_of_lt hi]
    simp
  have hne : c < w1.heap.size := by
    obtain ⟨v, h1, _⟩ := HS.out
    exact heap_lt h1
  refine ⟨w1.heap.size, fun j => j = w1.heap.size ∨ j = c ∨ (none : Option Nat) = some j, rfl, ⟨c, none, [], _, ⟨alloc_at _ _, by simpa using hsz, e 0 (by omega), e 1 (by omega), e 2 (by omega), e 3 (by omega), ?_, ?_, ?_, CameIs.zero, IB.zero_ok, by omega, by simp⟩, rfl⟩, ?_, ?_⟩
  · intro j v hv
    simp [IB.zero, gt] at hv
  · rw [Array.getElem?_setIfInBounds, if_pos rfl]
    simp [hsz]
  · exact HS.out.below ((Below.refl _ _).alloc (Nat.le_refl _) _)
  · have := HB.out.size
    rintro k (rfl | rfl | h)
    · exact this
    · exact hb1
    · cases h
  · exact HB.out.alloc HB.out.size _
end Go.Proofs.YtnneoeimgbemfaaGreat

/- DERIVED. Walks of inbuf's readers. -/
namespace Go.Proofs.YtnneoeimgbemfaaGreat
open Go.RowKit

theorem IbAt.cells {w : World} {b : Nat} {s : IB} {fp : Nat → Prop} (h : IbAt w b s fp) :
    w.cell? ⟨b, 0, none⟩ = some (.int .u64 s.rd) ∧ w.cell? ⟨b, 1, none⟩ = some (.int .u64 s.hi) ∧ w.cell? ⟨b, 2, none⟩ = some (.int .u64 s.fin) ∧ w.cell? ⟨b, 3, none⟩ = some (.bool s.kn) := by
  obtain ⟨c, og, xs, cs, h, _⟩ := h
  exact ⟨by rw [cell_at h.blk, h.c0], by rw [cell_at h.blk, h.c1], by rw [cell_at h.blk, h.c2], by rw [cell_at h.blk, h.c3]⟩
theorem IbAt.bd {w : World} {b : Nat} {s : IB} {fp : Nat → Prop} (h : IbAt w b s fp) : s.rd ≤ 1099511628288 ∧ s.hi ≤ 1099511628288 ∧ s.fin ≤ 1099511628288 ∧ s.rd + rdy s.L ≤ 1099511628288 := by
  have ho := h.ok
  have h1 := ho.hi
  have h2 := ho.fin
  have h3 := ho.top
  have h4 := rdy_le s.L
  omega

set_option maxHeartbeats 400000 in
theorem bhigh_q (b : Nat) (s : IB) (fp : Nat → Prop) (w : World) (h : IbAt w b s fp) :
    Calls Tryz.prog 57 #[.pointer (some ⟨b, 0, none⟩)] w fun e w' => e = .returned (.int .u64 s.hi) ∧ ∃ n, w' = w.drewN n := by
  obtain ⟨_, c0, _, _⟩ := h.cells
  clear h
  go_enter Tryz.func57, Tryz.ntmps57
  go_wp2
  go_ret
  exact ⟨rfl, 0, rfl⟩
set_option maxHeartbeats 400000 in
theorem bfinal_q (b : Nat) (s : IB) (fp : Nat → Prop) (w : World) (h : IbAt w b s fp) :
    Calls Tryz.prog 49 #[.pointer (some ⟨b, 0, none⟩)] w fun e w' => e = .returned (.tuple #[.int .u64 s.fin, .bool s.kn]) ∧ ∃ n, w' = w.drewN n := by
  obtain ⟨_, _, c0, c1⟩ := h.cells
  clear h
  go_enter Tryz.func49, Tryz.ntmps49
  go_wp2
  go_quiet (fail)
  go_wp2
  go_ret2
  exact ⟨rfl, _, rfl⟩

theorem find_take {p : Rg → Bool} {xs : List Rg} {k : Nat} {r : Rg} (h : xs[k]? = some r) (h0 : (xs.take k).find? p = none) (h1 : p r = false) : (xs.take (k + 1)).find? p = none := by
  rw [List.take_add_one, h, List.find?_append, h0]
  simp [h1]
theorem find_hit {p : Rg → Bool} {xs : List Rg} {k : Nat} {r : Rg} (h : xs[k]? = some r) (h0 : (xs.take k).find? p = none) (h1 : p r = true) : xs.find? p = some r := by
  have e : xs = xs.take k ++ r :: xs.drop (k + 1) := by
    rw [← drop_at h, List.take_append_drop]
  rw [e, List.find?_append, h0]
  simp [h1]

theorem readyOf_hit {xs : List Rg} {rd : Nat} {r : Rg} (h : xs.find? (hasP rd) = some r) : readyOf xs rd = r.2 := by
  unfold readyOf
  rw [h]
theorem readyOf_none {xs : List Rg} {rd : Nat} (h : xs.find? (hasP rd) = none) : readyOf xs rd = rd := by
  unfold readyOf
  rw [h]
set_option maxRecDepth 100000 in
set_option maxHeartbeats 1000000 in
theorem bready_any (b : Nat) (s : IB) (fp : Nat → Prop) (w : World) (h : IbAt w b s fp) :
    Calls Tryz.prog 70 #[.pointer (some ⟨b, 0, none⟩)] w fun e w' => e = .returned (.int .u64 ((s.rd + rdy s.L : Nat) : Int)) ∧ Below w.heap.size w w' := by
  obtain ⟨c0, _, _, _⟩ := h.cells
  obtain ⟨hb1, _, _, hb2⟩ := h.bd
  obtain ⟨c, og, xs, cs, h, hfp⟩ := h
  have hfew := h.is.few h.ok
  have hrd := h.is.ready
  have hbl : b < w.heap.size := heap_lt h.blk
  have c5 : w.cell? ⟨b, 2052, none⟩ = some (.pointer (some ⟨c, 0, none⟩)) := by rw [cell_at h.blk, h.c5]
  have HC := Lib.hid h.came
  have HR := Lib.hid hrd
  clear h hfp hrd
  go_enter Tryz.func70, Tryz.ntmps70
  go_wp2_with fail
  refine (all_any c 2048 og xs _ (by exact HC.out) (by omega)).mono ?_
  rintro e w1 ⟨va, oga, rfl, hsl, hnew, hb⟩
  have d0 := cell_keep hb hbl c0
  obtain ⟨oa, cap, rfl, hc1, hc2⟩ := hsl.shape
  have HS := Lib.hid hsl
  have HB := Lib.hid hb
  have hbl1 : b < w1.heap.size := Nat.lt_of_lt_of_le hbl hb.size
  clear hsl hnew hb c0 c5 HC
  generalize hn : xs.length = len at *
  have HN := Lib.hid hn
  clear hn
  go_wp2_with fail
  go_loopw [11] (fun i wr => ∃ k : Nat, i = .int .i64 k ∧ k ≤ len ∧ (xs.take k).find? (hasP s.rd) = none ∧ Below w1.heap.size w1 wr) (fun i _ => len - (intOf i).toNat)
  case atStart => exact ⟨0, rfl, by omega, rfl, Below.refl _ _⟩
  case round =>
    obtain ⟨k, rfl, hk, hf, hb⟩ := hrel
    have HF := Lib.hid hf
    have HB2 := Lib.hid hb
    have e0 := cell_keep hb hbl1 d0
    clear hf hb
    by_cases hlt : k < len
    · obtain ⟨r, hr⟩ : ∃ r, xs[k]? = some r := ⟨_, List.getElem?_eq_getElem (by rw [HN.out]; exact hlt)⟩
      obtain ⟨g, hog, rfl, hgl, q0, q1⟩ := HS.out.atS hr
      have e1 := cell_keep HB2.out hgl q0
      have e2 := cell_keep HB2.out hgl q1
      have HX := Lib.hid hr
      have ha0 := fun o => Lib.cell?_alloc_some o e0
      clear q0 q1 hog hr
      by_cases h1 : r.1 ≤ s.rd
      · by_cases h2 : s.rd < r.2
        · go_wp2_with fail
          go_quiet (fail)
          go_wp2_with fail
          go_ret
          refine ⟨ret_i64 ?_, below_call HB.out HB.out.size (below_call (HB2.out.alloc HB2.out.size _) (Nat.le_trans HB2.out.size (by simp)) (below_drewN (Below.refl _ _) _))⟩
          rw [← HR.out, readyOf_hit (find_hit HX.out HF.out (by simp [hasP, h1, h2]))]
        · go_wp2_with fail
          go_quiet (fail)
          go_wp2_with fail
          go_roundw
          case rel => exact ⟨k + 1, by go_num, by omega, find_take HX.out HF.out (by simp [hasP]; omega), below_drewN (HB2.out.alloc HB2.out.size _) _⟩
          case measure => simp [intOf]; omega
      · have h1' : decide (r.1 ≤ s.rd) = false := decide_eq_false h1
        go_wp2_with fail
        go_quiet (fail)
        go_wp2_with fail
        go_roundw
        case rel => exact ⟨k + 1, by go_num, by omega, find_take HX.out HF.out (by simp [hasP]; omega), below_drewN (HB2.out.alloc HB2.out.size _) _⟩
        case measure => simp [intOf]; omega
    · go_wp2_with fail
      go_ret
      refine ⟨ret_i64 ?_, below_call HB.out HB.out.size HB2.out⟩
      have := HF.out
      rw [List.take_of_length_le (by rw [HN.out]; omega)] at this
      rw [← HR.out, readyOf_none this]

theorem bready_z (b : Nat) (s : IB) (fp : Nat → Prop) (w : World) (h : IbAt w b s fp) {z : Nat} (hz : s.rd + rdy s.L = z) :
    Calls Tryz.prog 70 #[.pointer (some ⟨b, 0, none⟩)] w fun e w' => e = .returned (.int .u64 z) ∧ Below w.heap.size w w' := by
  subst hz
  exact bready_any b s fp w h

set_option maxRecDepth 100000 in
set_option maxHeartbeats 1000000 in
theorem bwhole_any (b : Nat) (s : IB) (fp : Nat → Prop) (w : World) (h : IbAt w b s fp) :
    Calls Tryz.prog 50 #[.pointer (some ⟨b, 0, none⟩)] w fun e w' => e = .returned (.bool s.whole) ∧ Below w.heap.size w w' := by
  obtain ⟨_, _, c2, c3⟩ := h.cells
  obtain ⟨hb1, hb3, hb4, hb2⟩ := h.bd
  have hbl : b < w.heap.size := h.lt.2 b h.lt.1
  have H := Lib.hid h
  clear h
  obtain ⟨z, hz⟩ : ∃ z, s.rd + rdy s.L = z := ⟨_, rfl⟩
  have HZ := Lib.hid hz
  have HW := Lib.hid (show s.whole = (s.kn && decide (z = s.fin)) by rw [IB.whole, hz])
  clear hz
  rw [HW.out]
  cases hk : s.kn
  · rw [hk] at c3
    go_enter Tryz.func50, Tryz.ntmps50
    go_wp2_with fail
    go_quiet (fail)
    go_wp2
    go_ret
    exact ⟨rfl, below_drewN (Below.refl _ _) _⟩
  · rw [hk] at c3
    go_enter Tryz.func50, Tryz.ntmps50
    go_wp2_with fail
    go_region_held3 (fun w' => w'.cell? ⟨b, 2, none⟩ = w.cell? ⟨b, 2, none⟩ ∧ w'.cell? ⟨b, 3, none⟩ = w.cell? ⟨b, 3, none⟩) (go_keep)
      (first | (go_at_call 70; refine (bready_z b s fp _ (by exact H.out.drew) HZ.out).mono ?_; rintro e w' ⟨rfl, hb⟩; have k0 := (hb.cell (p := ⟨b, 2, none⟩) (by exact hbl)).trans (by exact c2); have k1 := (hb.cell (p := ⟨b, 3, none⟩) (by exact hbl)).trans (by exact c3)))
    rename_i hHeld
    have HB := Lib.hid (below_call (Below.refl w.heap.size w).drew (Nat.le_refl _) hb)
    clear hb hHeld
    go_wp2
    go_ret
    exact ⟨fn_end (by simp [eqN]), HB.out⟩
end Go.Proofs.YtnneoeimgbemfaaGreat

/- DERIVED. Walk of inbuf's Add. -/
namespace Go.Proofs.YtnneoeimgbemfaaGreat
open Go.RowKit

/-- In the middle of Add: the first i bytes are laid. -/
structure AddMid (fp : Nat → Prop) (w wr : World) (b : Nat) (s : IB) (c : Nat) (og : Option Nat) (xs : List Rg) (off : Nat) (d : List Nat) (i : Nat) (cs : Array Value) : Prop where
  blk : wr.heap[b]? = some (.cells cs 118 (0, 0))
  size : cs.size = 2053
  c0 : cs[0]? = some (.int .u64 s.rd)
  c1 : cs[1]? = some (.int .u64 s.hi)
  c2 : cs[2]? = some (.int .u64 s.fin)
  c3 : cs[3]? = some (.bool s.kn)
  ring : ∀ j v, gt (putN s.rd off s.L (d.take i)) j = some v → cs[4 + (s.rd + j) % 2048]? = some (.int .u8 v)
  c5 : cs[2052]? = some (.pointer (some ⟨c, 0, none⟩))
  came : SetAt wr c 2048 og xs
  upd : Upd fp w wr
  sub : ∀ k, (k = b ∨ k = c ∨ og = some k) → fp k ∨ w.heap.size ≤ k
theorem BufAt.mid {w : World} {b : Nat} {s : IB} {c : Nat} {og : Option Nat} {xs : List Rg} {cs : Array Value} (h : BufAt w b s c og xs cs) (off : Nat) (d : List Nat) {fp : Nat → Prop} (hfp : fp = fun j => j = b ∨ j = c ∨ og = some j) : AddMid fp w w b s c og xs off d 0 cs :=
  ⟨h.blk, h.size, h.c0, h.c1, h.c2, h.c3, by simpa [putN_nil] using h.ring, h.c5, h.came, Upd.refl _ _, fun k hk => .inl (by rw [hfp]; exact hk)⟩
theorem AddMid.later {fp : Nat → Prop} {w wr w2 : World} {b : Nat} {s : IB} {c : Nat} {og : Option Nat} {xs : List Rg} {off : Nat} {d : List Nat} {i : Nat} {cs : Array Value} (h : AddMid fp w wr b s c og xs off d i cs) (hb : Below wr.heap.size wr w2) : AddMid fp w w2 b s c og xs off d i cs :=
  ⟨below_keeps hb h.blk (heap_lt h.blk), h.size, h.c0, h.c1, h.c2, h.c3, h.ring, h.c5, h.came.below hb, h.upd.trans (Upd.below hb) (fun _ _ x => x) (fun j hj x => by have := h.upd.size; omega), h.sub⟩
theorem take_snoc {d : List Nat} {k x : Nat} (h : d[k]? = some x) : d.take (k + 1) = d.take k ++ [x] ∧ (d.take k).length = k := by
  rw [List.getElem?_eq_some_iff] at h
  obtain ⟨h1, h2⟩ := h
  refine ⟨by rw [List.take_add_one, List.getElem?_eq_getElem h1, h2]; rfl, by rw [List.length_take]; omega⟩
theorem AddMid.keep_read {fp : Nat → Prop} {w wr : World} {b : Nat} {s : IB} {c : Nat} {og : Option Nat} {xs : List Rg} {off : Nat} {d : List Nat} {i x z : Nat} {cs : Array Value} (h : AddMid fp w wr b s c og xs off d i cs) (hx : d[i]? = some x) (hz : off + i = z) (h1 : z < s.rd) :
    AddMid fp w wr b s c og xs off d (i + 1) cs := by
  obtain ⟨e1, e2⟩ := take_snoc hx
  refine ⟨h.blk, h.size, h.c0, h.c1, h.c2, h.c3, ?_, h.c5, h.came, h.upd, h.sub⟩
  intro j v hv
  rw [e1, putN_snoc, e2, if_pos (by omega)] at hv
  exact h.ring j v hv
theorem CameIs.at {s : IB} {xs : List Rg} (h : CameIs s xs) {z : Nat} (h1 : s.rd ≤ z) : (gt s.L (z - s.rd)).isSome = mem xs z := by
  rw [h.2 z]
  have : ¬ z < s.rd := by omega
  simp [IB.came, this]
theorem AddMid.keep_came {fp : Nat → Prop} {w wr : World} {b : Nat} {s : IB} {c : Nat} {og : Option Nat} {xs : List Rg} {off : Nat} {d : List Nat} {i x z : Nat} {cs : Array Value} (h : AddMid fp w wr b s c og xs off d i cs) (hi : CameIs s xs) (hx : d[i]? = some x) (hz : off + i = z) (h1 : s.rd ≤ z)
    (hm : mem xs z = true) : AddMid fp w wr b s c og xs off d (i + 1) cs := by
  obtain ⟨e1, e2⟩ := take_snoc hx
  have hg := hi.at h1
  rw [hm] at hg
  refine ⟨h.blk, h.size, h.c0, h.c1, h.c2, h.c3, ?_, h.c5, h.came, h.upd, h.sub⟩
  intro j v hv
  rw [e1, putN_snoc, e2, if_neg (by omega), gt_put1, hz] at hv
  have hp : gt (putN s.rd off s.L (d.take i)) (z - s.rd) = gt s.L (z - s.rd) := by rw [gt_putN, if_pos hg]
  by_cases e : j = z - s.rd
  · subst e
    rw [if_pos rfl, hp, if_pos hg] at hv
    exact h.ring _ v (by rw [hp]; exact hv)
  · rw [if_neg e] at hv
    exact h.ring j v hv
theorem AddMid.store {fp : Nat → Prop} {w wr : World} {b : Nat} {s : IB} {c : Nat} {og : Option Nat} {xs : List Rg} {off : Nat} {d : List Nat} {i x z : Nat} {cs : Array Value} (h : AddMid fp w wr b s c og xs off d i cs) (hi : CameIs s xs) (hL : s.L.length ≤ 2048) (hne : c ≠ b ∧ og ≠ some b) (hx : d[i]? = some x) (hz : off + i = z) (h1 : s.rd ≤ z) (h2 : z < s.rd + 2048)
    (hm : mem xs z = false) : ∃ cs', AddMid fp w (wr.setCell ⟨b, 4 + z % 2048, none⟩ (.int .u8 x)) b s c og xs off d (i + 1) cs' := by
  obtain ⟨e1, e2⟩ := take_snoc hx
  have hg := hi.at h1
  rw [hm] at hg
  have hu : Upd (fun j => j = b) wr (wr.setCell ⟨b, 4 + z % 2048, none⟩ (.int .u8 x)) := Upd.setCell (Upd.refl (fun j => j = b) wr) ⟨b, 4 + z % 2048, none⟩ (.inl rfl) _
  have far : ∀ q, (q < 4 ∨ q = 2052) → (cs.setIfInBounds (4 + z % 2048) (.int .u8 x))[q]? = cs[q]? := by
    intro q hq
    rw [Array.getElem?_setIfInBounds, if_neg (by omega)]
  refine ⟨_, set_at h.blk _ _, by simpa using h.size, by rw [far 0 (by omega)]; exact h.c0, by rw [far 1 (by omega)]; exact h.c1, by rw [far 2 (by omega)]; exact h.c2, by rw [far 3 (by omega)]; exact h.c3, ?_, by rw [far 2052 (by omega)]; exact h.c5, ?_, ?_, h.sub⟩
  · intro j v hv
    have hjl : j < 2048 := by
      rcases Nat.lt_or_ge j (putN s.rd off s.L (d.take (i + 1))).length with hj | hj
      · rw [putN_len] at hj
        split at hj
        · omega
        · rw [e1, List.length_append, e2] at hj
          simp at hj
          omega
      · rw [gt_ge hj] at hv
        cases hv
    rw [e1, putN_snoc, e2, if_neg (by omega), gt_put1, hz] at hv
    have hp : gt (putN s.rd off s.L (d.take i)) (z - s.rd) = none := by
      rw [gt_putN, if_neg (by rw [hg]; simp)]
      split
      · rw [List.getElem?_eq_none (by rw [e2]; omega)]
      · rfl
    rw [Array.getElem?_setIfInBounds]
    by_cases e : j = z - s.rd
    · subst e
      rw [if_pos rfl, hp] at hv
      simp at hv
      subst hv
      rw [if_pos (by rw [show s.rd + (z - s.rd) = z by omega]), if_pos (by rw [h.size]; omega)]
    · rw [if_neg e] at hv
      rw [if_neg (by omega)]
      exact h.ring j v hv
  · exact h.came.keeps hu (by rintro rfl; exact hne.1 rfl) (by rintro g hg' rfl; exact hne.2 hg')
  · exact h.upd.trans hu (fun _ _ x => x) (fun j hj x => by
      subst x
      rcases h.sub _ (.inl rfl) with q | q
      · exact q
      · omega)
theorem AddMid.turned {fp : Nat → Prop} {w wr w' : World} {b : Nat} {s : IB} {c : Nat} {og : Option Nat} {xs ys : List Rg} {off : Nat} {d : List Nat} {i : Nat} {cs : Array Value} (h : AddMid fp w wr b s c og xs off d i cs) (hne : c ≠ b ∧ og ≠ some b) (t : Turned wr c 2048 og ys w') :
    ∃ og', AddMid fp w w' b s c og' ys off d i cs ∧ og' ≠ some b := by
  obtain ⟨og', h1, h2, h3⟩ := t
  have hb := heap_lt h.blk
  refine ⟨og', ⟨h3.keeps h.blk ?_, h.size, h.c0, h.c1, h.c2, h.c3, h.ring, h.c5, h1, h.upd.trans h3 (fun _ _ x => x) ?_, ?_⟩, ?_⟩
  · rintro (x | x)
    · exact hne.1 x.symm
    · exact hne.2 x
  · intro j hj x
    rcases h.sub j (.inr x) with q | q
    · exact q
    · omega
  · intro k hk
    rcases hk with hk | hk | hk
    · exact h.sub k (.inl hk)
    · exact h.sub k (.inr (.inl hk))
    · rcases h2 with rfl | rfl | ⟨g, rfl, h4⟩
      · exact h.sub k (.inr (.inr hk))
      · cases hk
      · cases hk
        right
        have := h.upd.size
        omega
  · rcases h2 with rfl | rfl | ⟨g, rfl, h4⟩
    · exact hne.2
    · simp
    · intro e
      cases e
      omega
theorem came_put {s : IB} {xs : List Rg} {off E : Nat} {d : List Nat} {f : Bool} (h : CameIs s xs) (ho : s.Ok) (hE : off + d.length = E) (hb : E ≤ 4611686018427387904) :
    ∃ ys, (if off < E ∧ E ≤ 4611686018427387904 then addL 2048 xs off E else xs) = ys ∧ CameIs (s.put off d f) ys := by
  refine ⟨_, rfl, ?_⟩
  by_cases hl : off < E
  · rw [if_pos ⟨hl, hb⟩]
    have h1 := h.few ho
    have h2 := addN_len xs (off, E)
    have e : addL 2048 xs off E = addN xs (off, E) := by
      unfold addL
      rw [addRaw_is hl xs h.1, trim_all (by omega)]
    rw [e, ← hE]
    exact h.put (by omega) (by omega)
  · rw [if_neg (by omega)]
    have : d = [] := List.eq_nil_of_length_eq_zero (by omega)
    subst this
    exact h.put_nil
/-- The numbers behind the bytes. -/
def stored (f : Bool) (b m E : Nat) (w : World) : World := if f then ((w.setCell ⟨b, 1, none⟩ (.int .u64 m)).setCell ⟨b, 2, none⟩ (.int .u64 E)).setCell ⟨b, 3, none⟩ (.bool true) else w.setCell ⟨b, 1, none⟩ (.int .u64 m)
theorem AddMid.fin {fp : Nat → Prop} {w wr : World} {b : Nat} {s : IB} {c : Nat} {og : Option Nat} {ys : List Rg} {off E m : Nat} {d : List Nat} {f : Bool} {cs : Array Value} (h : AddMid fp w wr b s c og ys off d d.length cs) (hne : c ≠ b ∧ og ≠ some b) (hi : CameIs (s.put off d f) ys)
    (hok : (s.put off d f).Ok) (hE : off + d.length = E) (hm : m = max s.hi E) : ∃ fp', IbAt (stored f b m E wr) b (s.put off d f) fp' ∧ Went fp fp' w (stored f b m E wr) := by
  have hr : ∀ j v, gt (putN s.rd off s.L d) j = some v → cs[4 + (s.rd + j) % 2048]? = some (.int .u8 v) := by
    have := h.ring
    rw [List.take_length] at this
    exact this
  have hu : Upd (fun j => j = b) wr (stored f b m E wr) := by
    unfold stored
    split
    · exact Upd.setCell (Upd.setCell (Upd.setCell (Upd.refl (fun j => j = b) wr) ⟨b, 1, none⟩ (.inl rfl) _) ⟨b, 2, none⟩ (.inl rfl) _) ⟨b, 3, none⟩ (.inl rfl) _
    · exact Upd.setCell (Upd.refl (fun j => j = b) wr) ⟨b, 1, none⟩ (.inl rfl) _
  refine ⟨fun j => j = b ∨ j = c ∨ og = some j, ⟨c, og, ys, if f then ((cs.setIfInBounds 1 (.int .u64 m)).setIfInBounds 2 (.int .u64 E)).setIfInBounds 3 (.bool true) else cs.setIfInBounds 1 (.int .u64 m), ?_, rfl⟩, h.upd.trans hu (fun _ _ x => x) (fun j hj x => by
    subst x
    rcases h.sub _ (.inl rfl) with q | q
    · exact q
    · omega), h.sub⟩
  have hc := h.came.keeps hu (by rintro rfl; exact hne.1 rfl) (by rintro g hg' rfl; exact hne.2 hg')
  have hsz := h.size
  cases f
  · refine ⟨set_at h.blk 1 _, by simpa using h.size, ?_, ?_, ?_, ?_, ?_, ?_, hc, hi, hok, hne.1, hne.2⟩
    · simp [h.c0, IB.put]
    · simp [IB.put, hE, hm, hsz]
    · simp [h.c2, IB.put]
    · simp [h.c3, IB.put]
    · intro j v hv
      simp only [IB.put, Bool.false_eq_true, if_false] at hv ⊢
      rw [Array.getElem?_setIfInBounds, if_neg (by omega)]
      exact hr j v hv
    · simp [h.c5]
  · refine ⟨set_at (set_at (set_at h.blk 1 _) 2 _) 3 _, by simpa using h.size, ?_, ?_, ?_, ?_, ?_, ?_, hc, hi, hok, hne.1, hne.2⟩
    · simp [h.c0, IB.put]
    · simp [IB.put, hE, hm, hsz]
    · simp [IB.put, hE, hsz]
    · simp [IB.put, hsz]
    · intro j v hv
      simp only [IB.put, if_true] at hv ⊢
      rw [Array.getElem?_setIfInBounds, if_neg (by omega), Array.getElem?_setIfInBounds, if_neg (by omega), Array.getElem?_setIfInBounds, if_neg (by omega)]
      exact hr j v hv
    · simp [h.c5]
theorem shas_mem (b : Nat) (most : Int) (og : Option Nat) (xs : List Rg) (n : Nat) (w : World) (h : SetAt w b most og xs) {v : Bool} (hv : mem xs n = v) :
    Calls Tryz.prog 68 #[.pointer (some ⟨b, 0, none⟩), .int .u64 n] w fun e w' => e = .returned (.bool v) ∧ Below w.heap.size w w' := by
  subst hv
  exact shas_any b most og xs n w h

set_option maxRecDepth 100000 in
set_option maxHeartbeats 1000000 in
theorem badd_ok (b : Nat) (s : IB) (fp : Nat → Prop) (off : Nat) (vd : Value) (d : List Nat) (f : Bool) (w : World) (h : IbAt w b s fp) (hd : VwA encB fp w vd d) (hb : Bys d) (hoff : off < 18446744073709551616) (he : s.err off d.length f = 0) :
    Calls Tryz.prog 48 #[.pointer (some ⟨b, 0, none⟩), .int .u64 off, vd, .bool f] w fun e w' => e = .returned (.int .i64 0) ∧ ∃ fp', IbAt w' b (s.put off d f) fp' ∧ Went fp fp' w w' := by
  obtain ⟨⟨he1, he2⟩, he3, he4⟩ := IB.err_zero he
  obtain ⟨c0, c1, c2, c3⟩ := h.cells
  obtain ⟨hb1, hb3, hb4, hb2⟩ := h.bd
  obtain ⟨oa, cap, rfl, hcap1, hcap2⟩ := hd.shape
  have H := Lib.hid h
  have HD := Lib.hid hd
  have HB := Lib.hid hb
  have HE3 := Lib.hid he
  clear h hd hb he
  generalize hn : d.length = len at *
  have HN := Lib.hid hn
  clear hn
  obtain ⟨E, hE, hE2⟩ : ∃ E : Nat, (off : Int) + (len : Int) = (E : Int) ∧ off + len = E := ⟨off + len, by omega, rfl⟩
  have HE := Lib.hid hE2
  have hE3 : E ≤ s.rd + 2048 := by omega
  rw [hE2] at he3 he4
  clear hE2
  go_enter Tryz.func48, Tryz.ntmps48
  go_upto_block 0 with fail
  go_cut [] (fun wx => wx = w)
  case first =>
    unfold IB.finErr at he3
    generalize s.kn = kn at *
    cases kn
    · cases f
      · go_wp2_with fail
        go_meet
        case rel => rfl
      · have q1 : ¬ E < s.hi := by simpa using he3
        go_wp2_with fail
        go_meet
        case rel => rfl
    · cases f
      · have q1 : ¬ s.fin < E := by simpa using he3
        go_wp2_with fail
        go_meet
        case rel => rfl
      · have q1 : E = s.fin ∧ ¬ E < s.hi := by
          simp at he3
          omega
        obtain ⟨q1, q2⟩ := q1
        have q3 : ¬ s.fin < E := by omega
        have q4 : ((E : Int) == (s.fin : Int)) = true := by rw [q1]; simp
        have q5 : ((E : Int) != (s.fin : Int)) = false := by rw [q1]; simp
        clear q1
        go_wp2_with fail
        go_meet
        case rel => rfl
  case rest =>
    subst hcut
    obtain ⟨c, og, xs, cs0, hbuf, hfp⟩ := H.out
    have HM0 := Lib.hid (show ∃ cs, AddMid fp wc wc b s c og xs off d 0 cs from ⟨cs0, hbuf.mid off d hfp⟩)
    have HI := Lib.hid hbuf.is
    have HO := Lib.hid hbuf.ok
    have HNE := Lib.hid (show c ≠ b ∧ og ≠ some b from ⟨hbuf.ne, hbuf.apart⟩)
    have HFP := Lib.hid hfp
    clear hbuf hfp c0 c1 c2 c3
    go_upto_block 1 with fail
    go_wp2_with fail
    go_loopw [68] (fun i wr => ∃ k : Nat, i = .int .i64 k ∧ k ≤ len ∧ ∃ cs, AddMid fp wc wr b s c og xs off d k cs) (fun i _ => len - (intOf i).toNat)
    case atStart => exact ⟨0, rfl, by omega, HM0.out⟩
    case round =>
      obtain ⟨k, rfl, hk, cs, hm⟩ := hrel
      have HM := Lib.hid hm
      clear hm HM0
      by_cases hlt : k < len
      · obtain ⟨x, hx⟩ : ∃ x, d[k]? = some x := ⟨_, List.getElem?_eq_getElem (by rw [HN.out]; exact hlt)⟩
        have hdw := HD.out.upd HM.out.upd (fun j hj => hj)
        obtain ⟨bd, od, rfl, hcell⟩ := hdw.byte hx
        have HX := Lib.hid hx
        have hx256 : x < 256 := HB.out x (List.mem_of_getElem? hx)
        clear hdw hx
        obtain ⟨at_, hat, hat2⟩ : ∃ z : Nat, (off : Int) + (k : Int) = (z : Int) ∧ off + k = z := ⟨off + k, by omega, rfl⟩
        have HAT := Lib.hid hat2
        have hat3 : at_ < s.rd + 2048 := by omega
        have hat4 : at_ ≤ 1099511628288 := by omega
        clear hat2
        have c0 : wr.cell? ⟨b, 0, none⟩ = some (.int .u64 s.rd) := by rw [cell_at HM.out.blk, HM.out.c0]
        have c5 : wr.cell? ⟨b, 2052, none⟩ = some (.pointer (some ⟨c, 0, none⟩)) := by rw [cell_at HM.out.blk, HM.out.c5]
        by_cases h1 : s.rd ≤ at_
        · cases hmm : mem xs at_
          · obtain ⟨m, hm, hm2, hm3⟩ : ∃ m : Nat, (at_ : Int).tmod 2048 = (m : Int) ∧ at_ % 2048 = m ∧ m < 2048 := ⟨at_ % 2048, by rw [Int.tmod_eq_emod_of_nonneg (by omega)]; omega, rfl, by omega⟩
            have HMM := Lib.hid hm2
            clear hm2
            go_wp2_with fail
            refine (shas_mem c 2048 og xs at_ _ (by exact HM.out.came) hmm).mono ?_
            rintro e w2 ⟨rfl, hb⟩
            have HM2 := Lib.hid (HM.out.later hb)
            clear hb HM c0 c5
            obtain ⟨u, hu⟩ : ∃ u, cs[4 + m]? = some u := ⟨_, Array.getElem?_eq_getElem (by rw [HM2.out.size]; omega)⟩
            have e0 : w2.cell? ⟨b, 4 + m, none⟩ = some u := by rw [cell_at HM2.out.blk, hu]
            have e1 := free_at HM2.out.blk (4 + m)
            clear hu
            go_wp2_with fail
            go_roundw
            case rel =>
              obtain ⟨cs2, h2⟩ := HM2.out.store HI.out HO.out.len HNE.out HX.out HAT.out h1 hat3 hmm
              rw [HMM.out] at h2
              exact ⟨k + 1, by go_num, by omega, cs2, h2⟩
            case measure => simp [intOf]; omega
          · go_wp2_with fail
            refine (shas_mem c 2048 og xs at_ _ (by exact HM.out.came) hmm).mono ?_
            rintro e w2 ⟨rfl, hb⟩
            have HM2 := Lib.hid ((HM.out.keep_came HI.out HX.out HAT.out h1 hmm).later hb)
            clear hb HM c0 c5
            go_wp2_with fail
            go_roundw
            case rel => exact ⟨k + 1, by go_num, by omega, cs, HM2.out⟩
            case measure => simp [intOf]; omega
        · go_wp2_with fail
          go_roundw
          case rel => exact ⟨k + 1, by go_num, by omega, cs, HM.out.keep_read HX.out HAT.out (by omega)⟩
          case measure => simp [intOf]; omega
      · obtain rfl : k = len := by omega
        have c5 : wr.cell? ⟨b, 2052, none⟩ = some (.pointer (some ⟨c, 0, none⟩)) := by rw [cell_at HM.out.blk, HM.out.c5]
        have hfew := HI.out.few HO.out
        go_wp2_with fail
        refine (add_any c 2048 og xs off E _ (by exact HM.out.came) (by omega) (by omega) (by omega)).mono ?_
        rintro e w2 ⟨rfl, ht⟩
        have HPO := Lib.hid (IB.put_ok HO.out (f := f) (by rw [HN.out]; exact HE3.out) HB.out)
        have hres : ∃ ys, (if off < E ∧ E ≤ 4611686018427387904 then addL 2048 xs off E else xs) = ys ∧ CameIs (s.put off d f) ys := came_put HI.out HO.out (by rw [HN.out]; exact HE.out) (by omega)
        obtain ⟨ys, hys, hcy⟩ := hres
        rw [hys] at ht
        obtain ⟨og2, hm2, hne2⟩ := HM.out.turned HNE.out ht
        have HM2 := Lib.hid hm2
        have HN2 := Lib.hid (show c ≠ b ∧ og2 ≠ some b from ⟨HNE.out.1, hne2⟩)
        have HCY := Lib.hid hcy
        clear ht hys hcy hm2 hne2 HM c5 hfew
        have e1 : w2.cell? ⟨b, 1, none⟩ = some (.int .u64 s.hi) := by rw [cell_at HM2.out.blk, HM2.out.c1]
        have e2 : w2.cell? ⟨b, 2, none⟩ = some (.int .u64 s.fin) := by rw [cell_at HM2.out.blk, HM2.out.c2]
        have e3 : w2.cell? ⟨b, 3, none⟩ = some (.bool s.kn) := by rw [cell_at HM2.out.blk, HM2.out.c3]
        have f1 := free_at HM2.out.blk 1
        have f2 := free_at HM2.out.blk 2
        have f3 := free_at HM2.out.blk 3
        by_cases hmx : s.hi < E
        all_goals cases f
        all_goals go_wp2_with fail
        all_goals go_ret
        all_goals refine ⟨rfl, ?_⟩
        all_goals exact AddMid.fin (E := E) (by rw [HN.out]; exact HM2.out) HN2.out HCY.out HPO.out (by rw [HN.out]; exact HE.out) (by omega)
end Go.Proofs.YtnneoeimgbemfaaGreat

/- DERIVED. Walk of inbuf's Add, where it refuses. -/
namespace Go.Proofs.YtnneoeimgbemfaaGreat
open Go.RowKit

theorem IB.err_one {s : IB} {off n : Nat} {f : Bool} (h : 1099511627776 < off ∨ 512 < n) : s.err off n f = 1 := by unfold IB.err; rw [if_pos h]
theorem IB.err_fin {s : IB} {off n : Nat} {f : Bool} (h : ¬ (1099511627776 < off ∨ 512 < n)) (h2 : s.finErr (off + n) f = true) : s.err off n f = 30 := by unfold IB.err; rw [if_neg h, if_pos h2]
theorem IB.err_over {s : IB} {off n : Nat} {f : Bool} (h : ¬ (1099511627776 < off ∨ 512 < n)) (h2 : s.finErr (off + n) f = false) (h3 : s.rd + 2048 < off + n) : s.err off n f = 23 := by
  unfold IB.err; rw [if_neg h, if_neg (by rw [h2]; simp), if_pos h3]
theorem IB.err_no {s : IB} {off n : Nat} {f : Bool} (h : ¬ (1099511627776 < off ∨ 512 < n)) (h2 : s.finErr (off + n) f = false) (h3 : ¬ s.rd + 2048 < off + n) : s.err off n f = 0 := by
  unfold IB.err; rw [if_neg h, if_neg (by rw [h2]; simp), if_neg h3]

set_option maxRecDepth 100000 in
set_option maxHeartbeats 1000000 in
theorem badd_err (b : Nat) (s : IB) (fp : Nat → Prop) (off : Nat) (vd : Value) (d : List Nat) (f : Bool) (w : World) (h : IbAt w b s fp) (hd : VwA encB fp w vd d) (hoff : off < 18446744073709551616) (he : s.err off d.length f ≠ 0) :
    Calls Tryz.prog 48 #[.pointer (some ⟨b, 0, none⟩), .int .u64 off, vd, .bool f] w fun e w' => e = .returned (.int .i64 (s.err off d.length f : Nat)) ∧ w' = w := by
  obtain ⟨c0, c1, c2, c3⟩ := h.cells
  obtain ⟨hb1, hb3, hb4, hb2⟩ := h.bd
  obtain ⟨oa, cap, rfl, hcap1, hcap2⟩ := hd.shape
  clear h hd
  generalize d.length = len at *
  by_cases h1 : (1099511627776 : Int) < off
  · have e := IB.err_one (s := s) (f := f) (n := len) (off := off) (.inl (by omega))
    rw [e]
    clear he e
    go_enter Tryz.func48, Tryz.ntmps48
    go_wp2_with fail
    go_ret
    exact ⟨rfl, rfl⟩
  by_cases h2 : (512 : Int) < len
  · have e := IB.err_one (s := s) (f := f) (n := len) (off := off) (.inr (by omega))
    rw [e]
    clear he e
    go_enter Tryz.func48, Tryz.ntmps48
    go_wp2_with fail
    go_ret
    exact ⟨rfl, rfl⟩
  have h12 : ¬ (1099511627776 < off ∨ 512 < len) := by omega
  obtain ⟨E, hE, hE2⟩ : ∃ E : Nat, (off : Int) + (len : Int) = (E : Int) ∧ off + len = E := ⟨off + len, by omega, rfl⟩
  have HE := Lib.hid hE2
  have hE4 : E ≤ 1099511628288 := by omega
  clear hE2
  cases hfe : s.finErr E f
  · by_cases h3 : s.rd + 2048 < E
    · have e := IB.err_over (s := s) (f := f) h12 (by rw [HE.out]; exact hfe) (by rw [HE.out]; exact h3)
      rw [e]
      clear he e h12
      go_enter Tryz.func48, Tryz.ntmps48
      unfold IB.finErr at hfe
      generalize s.kn = kn at *
      have h3' : (s.rd : Int) + 2048 < E := by omega
      cases kn
      · cases f
        · go_wp2_with fail
          go_ret
          exact ⟨rfl, rfl⟩
        · have q1 : ¬ E < s.hi := by simpa using hfe
          go_wp2_with fail
          go_ret
          exact ⟨rfl, rfl⟩
      · cases f
        · have q1 : ¬ s.fin < E := by simpa using hfe
          go_wp2_with fail
          go_ret
          exact ⟨rfl, rfl⟩
        · have q1 : E = s.fin ∧ ¬ E < s.hi := by
            simp at hfe
            omega
          obtain ⟨q1, q2⟩ := q1
          have q3 : ¬ s.fin < E := by omega
          have q5 : ((E : Int) != (s.fin : Int)) = false := by rw [q1]; simp
          clear q1
          go_wp2_with fail
          go_ret
          exact ⟨rfl, rfl⟩
    · exact absurd (IB.err_no h12 (by rw [HE.out]; exact hfe) (by rw [HE.out]; exact h3)) he
  · have e := IB.err_fin (s := s) (f := f) h12 (by rw [HE.out]; exact hfe)
    rw [e]
    clear he e h12
    unfold IB.finErr at hfe
    generalize s.kn = kn at *
    cases kn
    · cases f
      · simp at hfe
      · have q1 : E < s.hi := by simpa using hfe
        go_enter Tryz.func48, Tryz.ntmps48
        go_wp2_with fail
        go_ret
        exact ⟨rfl, rfl⟩
    · cases f
      · have q1 : s.fin < E := by simpa using hfe
        go_enter Tryz.func48, Tryz.ntmps48
        go_wp2_with fail
        go_ret
        exact ⟨rfl, rfl⟩
      · by_cases q1 : s.fin < E
        · go_enter Tryz.func48, Tryz.ntmps48
          go_wp2_with fail
          go_ret
          exact ⟨rfl, rfl⟩
        · by_cases q2 : E = s.fin
          · have q3 : E < s.hi := by
              simp at hfe
              omega
            have q5 : ((E : Int) != (s.fin : Int)) = false := by rw [q2]; simp
            clear q2
            go_enter Tryz.func48, Tryz.ntmps48
            go_wp2_with fail
            go_ret
            exact ⟨rfl, rfl⟩
          · have q5 : ((E : Int) != (s.fin : Int)) = true := by simp; omega
            go_enter Tryz.func48, Tryz.ntmps48
            go_wp2_with fail
            go_ret
            exact ⟨rfl, rfl⟩
end Go.Proofs.YtnneoeimgbemfaaGreat

/- DERIVED. Plain: pieces of one row of bytes; two rows of which the first one stands. -/
namespace Go.Proofs.YtnneoeimgbemfaaGreat

theorem out_eq {s : IB} {n : Nat} {l : List Nat} (hn : n ≤ rdy s.L) (hl : l.length = n) (h : ∀ j v, j < n → gt s.L j = some v → l[j]? = some v) : s.out n = l := by
  unfold IB.out
  apply List.ext_getElem?
  intro j
  have hle := rdy_le s.L
  by_cases hj : j < n
  · rw [List.getElem?_take_of_lt hj]
    obtain ⟨v, hv⟩ := rdy_lt (Nat.lt_of_lt_of_le hj hn)
    rw [bytesOf_get hv, h j v hj hv]
  · rw [List.getElem?_eq_none (by simp [bytesOf]; omega), List.getElem?_eq_none (by omega)]
theorem out_len {s : IB} {n : Nat} (hn : n ≤ rdy s.L) : (s.out n).length = n := by
  have := rdy_le s.L
  simp [IB.out, bytesOf]
  omega

/-- All that came are pieces of one row. -/
structure Piece (W : List Nat) (s : IB) : Prop where
  rd : s.rd ≤ W.length
  hi : s.hi ≤ W.length
  fin : s.kn = true → s.fin = W.length
  get : ∀ j v, gt s.L j = some v → W[s.rd + j]? = some v
theorem Piece.zero (W : List Nat) : Piece W IB.zero := ⟨Nat.zero_le _, Nat.zero_le _, by simp [IB.zero], by intro j v h; simp [IB.zero, gt] at h⟩
theorem Piece.add {W : List Nat} {s : IB} (h : Piece W s) (hW : W.length ≤ 200) {off n : Nat} {f : Bool} (hn : off + n ≤ W.length) (hf : f = true → off + n = W.length) :
    s.err off n f = 0 ∧ Piece W (s.put off ((W.drop off).take n) f) ∧ ((W.drop off).take n).length = n := by
  have hl : ((W.drop off).take n).length = n := by rw [List.length_take, List.length_drop]; omega
  have h1 := h.hi
  refine ⟨?_, ⟨h.rd, ?_, ?_, ?_⟩, hl⟩
  · unfold IB.err
    rw [if_neg (by omega)]
    have : s.finErr (off + n) f = false := by
      unfold IB.finErr
      cases hk : s.kn
      · cases f
        · rfl
        · have := hf rfl
          simp
          omega
      · have h2 := h.fin hk
        cases f
        · simp
          omega
        · have := hf rfl
          simp
          omega
    rw [this]
    simp
    omega
  · simp only [IB.put]
    rw [hl]
    omega
  · intro hk
    simp only [IB.put] at *
    rw [hl] at *
    cases f
    · simp at hk ⊢
      exact h.fin hk
    · simpa using hf rfl
  · intro j v hv
    simp only [IB.put] at hv ⊢
    rw [gt_putN] at hv
    split at hv
    · exact h.get j v hv
    · split at hv
      · rename_i _ ho
        rw [List.getElem?_take] at hv
        split at hv
        · rw [List.getElem?_drop] at hv
          rw [← hv]
          congr 1
          omega
        · cases hv
      · cases hv
theorem Piece.take {W : List Nat} {s : IB} (h : Piece W s) {n : Nat} (hn : n ≤ rdy s.L) : Piece W (s.take n) ∧ s.out n = (W.drop s.rd).take n ∧ s.rd + n ≤ W.length := by
  have hr : s.rd + n ≤ W.length := by
    rcases Nat.eq_zero_or_pos n with h0 | h0
    · have := h.rd
      omega
    · obtain ⟨v, hv⟩ := rdy_lt (L := s.L) (j := n - 1) (by omega)
      have := h.get _ _ hv
      rw [List.getElem?_eq_some_iff] at this
      obtain ⟨h1, _⟩ := this
      omega
  refine ⟨⟨hr, h.hi, h.fin, ?_⟩, ?_, hr⟩
  · intro j v hv
    simp only [IB.take] at hv ⊢
    rw [gt_drop] at hv
    rw [← h.get _ _ hv]
    congr 1
    omega
  · apply out_eq hn
    · rw [List.length_take, List.length_drop]
      omega
    · intro j v hj hv
      rw [List.getElem?_take_of_lt hj, List.getElem?_drop]
      exact h.get j v hv
theorem Piece.all {W : List Nat} {s : IB} (h : Piece W s) (_hok : s.Ok) {f : Bool} : rdy (s.put 0 W f).L = W.length - s.rd := by
  have hr := h.rd
  apply rdy_is
  · intro j hj
    simp only [IB.put]
    rw [gt_putN]
    split
    · assumption
    · rw [if_pos (by omega), List.getElem?_eq_getElem (by omega)]
      rfl
  · simp only [IB.put]
    rw [gt_putN]
    have hn : gt s.L (W.length - s.rd) = none := by
      cases hg : gt s.L (W.length - s.rd) with
      | none => rfl
      | some v =>
        have := h.get _ _ hg
        rw [List.getElem?_eq_none (by omega)] at this
        cases this
    rw [hn]
    simp
    omega

/-- Two rows, the second one from k on. -/
def two (a b : List Nat) (k : Nat) : IB := (IB.zero.put 0 a false).put k b false
theorem two_get (a b : List Nat) {k : Nat} (j : Nat) : gt (two a b k).L j = if j < a.length then a[j]? else if k ≤ j then b[j - k]? else none := by
  simp only [two, IB.put, IB.zero]
  rw [gt_putN, gt_putN]
  simp only [gt_nil, Nat.zero_add, Nat.sub_zero, Nat.zero_le, if_true, Option.isSome_none, Bool.false_eq_true, if_false]
  by_cases h : j < a.length
  · rw [if_pos h, List.getElem?_eq_getElem h]
    simp
  · rw [if_neg h, List.getElem?_eq_none (by omega)]
    simp
theorem two_rdy (a b : List Nat) {k : Nat} (hk : k ≤ a.length) : rdy (two a b k).L = max a.length (k + b.length) := by
  apply rdy_is
  · intro j hj
    rw [two_get]
    split
    · rename_i h
      rw [List.getElem?_eq_getElem h]
      rfl
    · rw [if_pos (by omega), List.getElem?_eq_getElem (by omega)]
      rfl
  · rw [two_get, if_neg (by omega)]
    split
    · rw [List.getElem?_eq_none (by omega)]
    · rfl
theorem two_out (a b : List Nat) {k : Nat} (hk : k ≤ a.length) : (two a b k).out (max a.length (k + b.length)) = a ++ b.drop (a.length - k) := by
  apply out_eq (by rw [two_rdy a b hk]; omega)
  · simp
    omega
  · intro j v hj hv
    rw [two_get] at hv
    rw [List.getElem?_append]
    by_cases h : j < a.length
    · rw [if_pos h] at hv ⊢
      exact hv
    · rw [if_neg h] at hv ⊢
      rw [if_pos (by omega)] at hv
      rw [List.getElem?_drop, ← hv]
      congr 1
      omega
theorem two_hi (a b : List Nat) (k : Nat) : (two a b k).hi = max a.length (k + b.length) := by simp [two, IB.put, IB.zero]
theorem two_kn (a b : List Nat) (k : Nat) : (two a b k).kn = false := rfl
theorem two_rd (a b : List Nat) (k : Nat) : (two a b k).rd = 0 := rfl
theorem two_ok (a b : List Nat) {k : Nat} (ha : a.length ≤ 60) (hb : b.length ≤ 60) (hk : k ≤ a.length) (Ba : ∀ n ∈ a, n < 256) (Bb : ∀ n ∈ b, n < 256) :
    IB.zero.err 0 a.length false = 0 ∧ (IB.zero.put 0 a false).err k b.length false = 0 ∧ (two a b k).Ok := by
  have h1 : IB.zero.err 0 a.length false = 0 := by
    unfold IB.err
    rw [if_neg (by omega)]
    simp [IB.finErr, IB.zero]
    omega
  have h2 : (IB.zero.put 0 a false).err k b.length false = 0 := by
    unfold IB.err
    rw [if_neg (by omega)]
    simp [IB.finErr, IB.put, IB.zero]
    omega
  exact ⟨h1, h2, IB.put_ok (IB.put_ok IB.zero_ok h1 Ba) h2 Bb⟩
theorem two_over (a b : List Nat) (k : Nat) {off : Nat} (h1 : 2049 ≤ off) (h2 : off ≤ 3048) (h3 : (two a b k).hi ≤ 120) : (two a b k).err off 1 true = 23 := by
  unfold IB.err
  rw [if_neg (by omega)]
  have : (two a b k).finErr (off + 1) true = false := by
    unfold IB.finErr
    rw [two_kn]
    simp
    omega
  rw [this, two_rd]
  simp
  omega
theorem two_final (a b : List Nat) (k : Nat) (h : 0 < (two a b k).hi) : (two a b k).err 0 0 true = 30 := by
  unfold IB.err
  rw [if_neg (by omega)]
  have : (two a b k).finErr (0 + 0) true = true := by
    unfold IB.finErr
    simp
    right
    exact h
  rw [this]
  simp
end Go.Proofs.YtnneoeimgbemfaaGreat
