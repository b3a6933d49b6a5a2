/- DERIVED. The evaluator's operations against the model's: append, copy, clear. -/
import Derived.Test.YtijnjnncgkhabaaEvQ5
namespace Go.Proofs.Ytijnjnncgkhabaa
namespace Ev
open Go.RowKit

section
variable {P : Program} {Y : Ty} {β : Id → CA} {D : Id → Prop} {B N : Nat} {W w : World} {s s' : S} {e : Env} {a : Act}

theorem lenO_ok {x : AV} {X : Value} {n : Nat} (h : lenO x = some n) (hx : VR β D x X) (w : World) : (Builtin.lenOf X).run P w = .ok n w := by
  cases x <;> simp only [lenO] at h <;> try (cases h; done)
  all_goals
    cases h
    simp only [VR] at hx
  · rename_i b
    obtain ⟨rfl, _⟩ := hx
    have hsz : (⟨(b.map UInt8.ofNat).toArray⟩ : ByteArray).size = b.length := by show (List.map UInt8.ofNat b).toArray.size = _; simp
    simp [Builtin.lenOf, hsz]
  · subst hx; simp [Builtin.lenOf]
  · obtain ⟨_, rfl⟩ := hx; simp [Builtin.lenOf]
  · obtain ⟨_, _, q, cap, rfl, _⟩ := hx; simp [Builtin.lenOf]

/-- The first cells of a source. -/
theorem first_ok (hr : HR β D B s.h w) {z n m : Nat} {x : AV} {X : Value} {new : List AV} (h : firstL z n x s = some (new, s')) (hx : VR β D x X) (hm : lenO x = some m) (hn : n ≤ m) :
    Same s s' ∧ ∃ News : List Value, VRs β D new News ∧ (∀ v ∈ new, v.one = true) ∧ new.length = n * z ∧ ∀ w', w'.heap = w.heap → (Builtin.firstCells z n X).run P w' = .ok News.toArray w' := by
  have load : ∀ {id : Id} {off : Nat} {q : Nat}, M.rd id off (n * z) s = some (new, s') → (n * z ≠ 0 → q = (β id).base + off) →
      Same s s' ∧ ∃ News : List Value, VRs β D new News ∧ (∀ v ∈ new, v.one = true) ∧ new.length = n * z ∧ ∀ w', w'.heap = w.heap → (loadCells ⟨(β id).blk, q, none⟩ (n * z)).run P w' = .ok News.toArray w' := by
    intro id off q hrd hq
    obtain ⟨g1, g2, g3, Vs, g4, g5, g6, g7, g8⟩ := rd_ok hr hrd
    refine ⟨⟨g1, g2⟩, Vs, g4, g8, g3, fun w' hw' => ?_⟩
    have := run_loadCells_list (P := P) w' ⟨(β id).blk, q, none⟩ Vs (fun j V hV => by
      have hj : j < Vs.length := by
        rcases Nat.lt_or_ge j Vs.length with h' | h'
        · exact h'
        · rw [List.getElem?_eq_none h'] at hV; cases hV
      rw [add_at, hq (by omega), World.cell?_of_block (w := w) (by rw [hw'])]
      exact g6 j V hV)
    rwa [g5] at this
  cases x <;> simp only [lenO] at hm <;> try (cases hm; done)
  all_goals
    cases hm
    simp only [firstL] at h
    simp only [VR] at hx
  · -- a text
    rename_i b
    obtain ⟨hz, h⟩ := ifB_some h
    obtain ⟨rfl, rfl⟩ := pure_some h
    obtain rfl : z = 1 := Nat.eq_of_beq_eq_true hz
    obtain ⟨rfl, hb⟩ := hx
    refine ⟨⟨rfl, rfl⟩, (b.take n).map fun x : Nat => Value.int .u8 (x : Int), ?_, ?_, ?_, fun w' _ => ?_⟩
    · refine VRs.of (by simp [bytesL]) fun j x V h1 h2 => ?_
      simp only [bytesL, List.getElem?_map] at h1 h2
      cases hq : (List.take n b)[j]? with
      | none => rw [hq] at h1; cases h1
      | some q =>
        rw [hq] at h1 h2
        simp only [Option.map_some, Option.some.injEq] at h1 h2
        subst h1 h2
        simp only [VR]
        rfl
    · intro v hv
      simp only [bytesL, List.mem_map] at hv
      obtain ⟨_, _, rfl⟩ := hv
      rfl
    · simp [bytesL]; omega
    · simp only [Builtin.firstCells, Sem.run_pure]
      congr 1
      apply Array.ext'
      simp [ByteArray.data_extract]
      congr 1
      refine List.map_congr_left fun q hq => ?_
      have := hb q hq
      simp
      omega
  · -- nil
    obtain ⟨rfl, rfl⟩ := pure_some h
    subst hx
    obtain rfl : n = 0 := by omega
    exact ⟨⟨rfl, rfl⟩, [], VRs.nil, by simp, by simp, fun w' _ => by simp [Builtin.firstCells]⟩
  · obtain ⟨_, rfl⟩ := hx
    simp only [Builtin.firstCells]
    exact load h (fun _ => rfl)
  · obtain ⟨_, hlk, q, cap, rfl, hkc, hq, _⟩ := hx
    simp only [Builtin.firstCells]
    refine load h (fun h0 => hq.resolve_left (fun hc => ?_))
    obtain rfl : n = 0 := by omega
    simp at h0

section
variable {t xT ty el : TypeId} {i : TypeInfo} {d : TypeDesc}
set_option maxHeartbeats 800000 in
/-- append where there is room. -/
theorem app_room (hu : P.underlying t = some (.slice el)) (hi : P.info? el = some i) (hx : P.underlying xT = some d) (hd : d = .string ∨ ∃ e, d = .slice e) {base : Option Addr} {sLen sCap n : Nat} {X : Value} {News : List Value} {w' : World}
    (hlen : (Builtin.lenOf X).run P w = .ok n w) (hroom : sLen + n ≤ sCap) (hfirst : (Builtin.firstCells i.size n X).run P w = .ok News.toArray w)
    (hst : ∀ a, base = some a → (storeCells (a.add (sLen * i.size)) News).run P w = .ok () w') (hno : base = none → w' = w) :
    (Builtin.append_ #[t, xT] ty #[.slice base sLen sCap, X]).run P w = .ok (.slice base (sLen + n) sCap) w' := by
  cases base with
  | none =>
    obtain rfl := hno rfl
    rcases hd with rfl | ⟨e2, rfl⟩ <;> simp [Builtin.append_, run_underlying hu, run_underlying hx, sizeOf, typeInfo, hi, hlen, hroom, hfirst]
  | some ad =>
    have := hst ad rfl
    rcases hd with rfl | ⟨e2, rfl⟩ <;> simp [Builtin.append_, run_underlying hu, run_underlying hx, sizeOf, typeInfo, hi, hlen, hroom, hfirst, this]
set_option maxHeartbeats 800000 in
/-- append where there is none. -/
theorem app_grow (hu : P.underlying t = some (.slice el)) (hi : P.info? el = some i) {z : Value} (hzz : i.zero = some z) (hx : P.underlying xT = some d) (hd : d = .string ∨ ∃ e, d = .slice e) {base : Option Addr} {sLen sCap n : Nat} {X : Value} {Old News : List Value}
    (hlen : (Builtin.lenOf X).run P w = .ok n w) (hroom : sCap < sLen + n) (hl : sLen ≤ 1048576) (hn : n ≤ 1048576) (hb : i.bytes ≤ 1048576) (hb1 : 1 ≤ i.bytes)
    (hold : (Builtin.firstCells i.size sLen (.slice base sLen sCap)).run P w.drew = .ok Old.toArray w.drew) (hfirst : (Builtin.firstCells i.size n X).run P w.drew = .ok News.toArray w.drew) :
    (Builtin.append_ #[t, xT] ty #[.slice base sLen sCap, X]).run P w = .ok (.slice (some ⟨w.heap.size, 0, none⟩) (sLen + n) (grownCap w (sLen + n) sCap el))
      (w.drew.alloc (.cells (Old.toArray ++ News.toArray ++ Builtin.zeroCells z.cells (grownCap w (sLen + n) sCap el - (sLen + n))) el)) := by
  have h1 : ¬ (sLen + n ≤ sCap) := by omega
  have h2 : ¬ (9223372036854775807 < ((sLen : Int) + (n : Int))) := by omega
  have h3 := growslice_fits (need := sLen + n) (old := sCap) (bytes := i.bytes) hroom (by
    have : (sLen + n) * i.bytes ≤ 2097152 * 1048576 := Nat.mul_le_mul (by omega) hb
    omega)
  have h4 : ¬ (281474976710656 < Builtin.nextslicecap (sLen + n) sCap * i.bytes) := by omega
  rcases hd with rfl | ⟨e2, rfl⟩ <;> simp [Builtin.append_, run_underlying hu, run_underlying hx, sizeOf, typeInfo, zeroValue, hi, hzz, hlen, h1, h2, h4, Question.forced, hold, hfirst, newRow, grownCap]
  all_goals
    congr 2
    apply Array.ext'
    simp
set_option maxHeartbeats 800000 in
/-- append of make, where there is room. -/
theorem apz_room (hu : P.underlying t = some (.slice el)) (hi : P.info? el = some i) {z : Value} (hzz : i.zero = some z) (hzs : z.cells.size = i.size) (hx : P.underlying xT = some d) (hd : isIntD d = true) {base : Option Addr} {sLen sCap n : Nat} {k : IntKind} {w' : World}
    (hroom : sLen + n ≤ sCap) (hn : n ≤ 1048576) (hb : i.bytes ≤ 1048576)
    (hst : ∀ a, base = some a → (storeCells (a.add (sLen * i.size)) (madeCells z.cells (n * i.size)).toList).run P w = .ok () w') (hno : base = none → w' = w) :
    (Builtin.append_ #[t, xT] ty #[.slice base sLen sCap, .int k n]).run P w = .ok (.slice base (sLen + n) sCap) w' := by
  have hw : IntKind.i64.wrap (n : Int) = n := by rw [IntKind.wrap_i64]; omega
  have hneg : ¬ ((n : Int) < 0) := by omega
  have hnb : n * i.bytes ≤ 281474976710656 := Nat.le_trans (Nat.mul_le_mul hn hb) (by omega)
  have h48 : ¬ (281474976710656 < (n : Int) * (i.bytes : Int)) := by rw [← Int.natCast_mul]; omega
  have hmade : Builtin.zeroCells z.cells n = madeCells z.cells (n * i.size) := by simp [Builtin.zeroCells, madeCells, hzs]
  have hd' : ∃ kk, d = .int kk := by cases d <;> simp [isIntD] at hd; exact ⟨_, rfl⟩
  obtain ⟨kk, rfl⟩ := hd'
  by_cases h0 : n * i.size = 0
  · have hm0 : madeCells z.cells (n * i.size) = #[] := by simp [madeCells, h0]
    rw [hm0] at hst
    cases base with
    | none =>
      obtain rfl := hno rfl
      simp [Builtin.append_, run_underlying hu, run_underlying hx, sizeOf, typeInfo, hi, asInt, asIntOf, hw, hneg, h48, hroom, h0]
    | some ad =>
      have := hst ad rfl
      simp at this
      simp [Builtin.append_, run_underlying hu, run_underlying hx, sizeOf, typeInfo, hi, asInt, asIntOf, hw, hneg, h48, hroom, h0, this]
  · cases base with
    | none =>
      obtain rfl := hno rfl
      simp [Builtin.append_, run_underlying hu, run_underlying hx, sizeOf, typeInfo, zeroValue, hzz, hi, asInt, asIntOf, hw, hneg, h48, hroom, h0]
    | some ad =>
      have := hst ad rfl
      simp [Builtin.append_, run_underlying hu, run_underlying hx, sizeOf, typeInfo, zeroValue, hzz, hi, asInt, asIntOf, hw, hneg, h48, hroom, h0, hmade, this]
set_option maxHeartbeats 800000 in
/-- append of make, where there is none. -/
theorem apz_grow (hu : P.underlying t = some (.slice el)) (hi : P.info? el = some i) {z : Value} (hzz : i.zero = some z) (hzs : z.cells.size = i.size) (hx : P.underlying xT = some d) (hd : isIntD d = true) {base : Option Addr} {sLen sCap n : Nat} {k : IntKind} {Old : List Value}
    (hroom : sCap < sLen + n) (hl : sLen ≤ 1048576) (hn : n ≤ 1048576) (hb : i.bytes ≤ 1048576) (hb1 : 1 ≤ i.bytes)
    (hold : (Builtin.firstCells i.size sLen (.slice base sLen sCap)).run P w.drew = .ok Old.toArray w.drew) :
    (Builtin.append_ #[t, xT] ty #[.slice base sLen sCap, .int k n]).run P w = .ok (.slice (some ⟨w.heap.size, 0, none⟩) (sLen + n) (grownCap w (sLen + n) sCap el))
      (w.drew.alloc (.cells (Old.toArray ++ (madeCells z.cells (n * i.size)).toList.toArray ++ Builtin.zeroCells z.cells (grownCap w (sLen + n) sCap el - (sLen + n))) el)) := by
  have hw : IntKind.i64.wrap (n : Int) = n := by rw [IntKind.wrap_i64]; omega
  have hneg : ¬ ((n : Int) < 0) := by omega
  have hnb : n * i.bytes ≤ 281474976710656 := Nat.le_trans (Nat.mul_le_mul hn hb) (by omega)
  have h48 : ¬ (281474976710656 < (n : Int) * (i.bytes : Int)) := by rw [← Int.natCast_mul]; omega
  have hmade : Builtin.zeroCells z.cells n = madeCells z.cells (n * i.size) := by simp [Builtin.zeroCells, madeCells, hzs]
  have hd' : ∃ kk, d = .int kk := by cases d <;> simp [isIntD] at hd; exact ⟨_, rfl⟩
  obtain ⟨kk, rfl⟩ := hd'
  have h1 : ¬ (sLen + n ≤ sCap) := by omega
  have h2 : ¬ (9223372036854775807 < ((sLen : Int) + (n : Int))) := by omega
  have h3 := growslice_fits (need := sLen + n) (old := sCap) (bytes := i.bytes) hroom (by
    have : (sLen + n) * i.bytes ≤ 2097152 * 1048576 := Nat.mul_le_mul (by omega) hb
    omega)
  have h4 : ¬ (281474976710656 < Builtin.nextslicecap (sLen + n) sCap * i.bytes) := by omega
  by_cases h0 : n * i.size = 0
  · have hm0 : madeCells z.cells (n * i.size) = #[] := by simp [madeCells, h0]
    rw [hm0]
    simp [Builtin.append_, run_underlying hu, run_underlying hx, sizeOf, typeInfo, zeroValue, hi, hzz, asInt, asIntOf, hw, hneg, h48, h1, h2, h4, h0, Question.forced, hold, newRow, grownCap]
  · simp [Builtin.append_, run_underlying hu, run_underlying hx, sizeOf, typeInfo, zeroValue, hi, hzz, asInt, asIntOf, hw, hneg, h48, h1, h2, h4, h0, Question.forced, hold, newRow, grownCap, hmade]
end
end
end Ev
end Go.Proofs.Ytijnjnncgkhabaa
