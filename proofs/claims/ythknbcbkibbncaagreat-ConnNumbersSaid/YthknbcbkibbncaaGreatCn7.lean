/- DERIVED. The evaluator's operations against the model's: append, copy, clear. -/
import Derived.ChangeKeysEq
import Derived.MapKept
import Derived.Test.YthknbcbkibbncaaGreatCn6
set_option linter.all false
namespace Go.Proofs.YthknbcbkibbncaaGreat
namespace Ev
open Go.RowKit

section
variable {P : Program} {Y : Ty} {β : Id → CA} {D : Id → Prop} {B N : Nat} {W w : World} {s s' : S} {e : Env} {a : Act}

theorem lenO_ok {x : AV} {X : Value} {n : Nat} (h : lenO x = some n) (hx : VR β D x X) (w : World) : (Builtin.lenOf X).run P w = .ok n w := by
  cases x <;> simp only [lenO] at h <;> try (cases h; done)
  all_goals
    cases h
    simp only [VR] at hx
  · rename_i b
    obtain ⟨rfl, _⟩ := hx
    have hsz : (⟨(b.map UInt8.ofNat).toArray⟩ : ByteArray).size = b.length := by show (List.map UInt8.ofNat b).toArray.size = _; simp
    simp [Builtin.lenOf, hsz]
  · subst hx; simp [Builtin.lenOf]
  · obtain ⟨_, rfl⟩ := hx; simp [Builtin.lenOf]
  · obtain ⟨_, _, q, cap, rfl, _⟩ := hx; simp [Builtin.lenOf]

theorem first_ok (hr : HR β D B s.h w) {z n m : Nat} {x : AV} {X : Value} {new : List AV} (h : firstL z n x s = some (new, s')) (hx : VR β D x X) (hm : lenO x = some m) (hn : n ≤ m) :
    Same s s' ∧ ∃ News : List Value, VRs β D new News ∧ (∀ v ∈ new, v.one = true) ∧ new.length = n * z ∧ ∀ w', w'.heap = w.heap → (Builtin.firstCells z n X).run P w' = .ok News.toArray w' := by
  have load : ∀ {id : Id} {off : Nat} {q : Nat}, M.rd id off (n * z) s = some (new, s') → (n * z ≠ 0 → q = (β id).base + off) →
      Same s s' ∧ ∃ News : List Value, VRs β D new News ∧ (∀ v ∈ new, v.one = true) ∧ new.length = n * z ∧ ∀ w', w'.heap = w.heap → (loadCells ⟨(β id).blk, q, none⟩ (n * z)).run P w' = .ok News.toArray w' := by
    intro id off q hrd hq
    obtain ⟨g1, g2, g3, Vs, g4, g5, g6, g7, g8⟩ := rd_ok hr hrd
    refine ⟨⟨g1, g2⟩, Vs, g4, g8, g3, fun w' hw' => ?_⟩
    have := run_loadCells_list (P := P) w' ⟨(β id).blk, q, none⟩ Vs (fun j V hV => by
      have hj : j < Vs.length := by
        rcases Nat.lt_or_ge j Vs.length with h' | h'
        · exact h'
        · rw [List.getElem?_eq_none h'] at hV; cases hV
      rw [add_at, hq (by omega), World.cell?_of_block (w := w) (by rw [hw'])]
      exact g6 j V hV)
    rwa [g5] at this
  cases x <;> simp only [lenO] at hm <;> try (cases hm; done)
  all_goals
    cases hm
    simp only [firstL] at h
    simp only [VR] at hx
  · -- a text
    rename_i b
    obtain ⟨hz, h⟩ := ifB_some h
    obtain ⟨rfl, rfl⟩ := pure_some h
    obtain rfl : z = 1 := Nat.eq_of_beq_eq_true hz
    obtain ⟨rfl, hb⟩ := hx
    refine ⟨⟨rfl, rfl⟩, (b.take n).map fun x : Nat => Value.int .u8 (x : Int), ?_, ?_, ?_, fun w' _ => ?_⟩
    · refine VRs.of (by simp [bytesL]) fun j x V h1 h2 => ?_
      simp only [bytesL, List.getElem?_map] at h1 h2
      cases hq : (List.take n b)[j]? with
      | none => rw [hq] at h1; cases h1
      | some q =>
        rw [hq] at h1 h2
        simp only [Option.map_some, Option.some.injEq] at h1 h2
        subst h1 h2
        simp only [VR]
        rfl
    · intro v hv
      simp only [bytesL, List.mem_map] at hv
      obtain ⟨_, _, rfl⟩ := hv
      rfl
    · simp [bytesL]; omega
    · simp only [Builtin.firstCells, Sem.run_pure]
      congr 1
      apply Array.ext'
      simp [ByteArray.data_extract]
      congr 1
      refine List.map_congr_left fun q hq => ?_
      have := hb q hq
      simp
      omega
  · -- nil
    obtain ⟨rfl, rfl⟩ := pure_some h
    subst hx
    obtain rfl : n = 0 := by omega
    exact ⟨⟨rfl, rfl⟩, [], VRs.nil, by simp, by simp, fun w' _ => by simp [Builtin.firstCells]⟩
  · obtain ⟨_, rfl⟩ := hx
    simp only [Builtin.firstCells]
    exact load h (fun _ => rfl)
  · obtain ⟨_, hlk, q, cap, rfl, hkc, hq, _⟩ := hx
    simp only [Builtin.firstCells]
    refine load h (fun h0 => hq.resolve_left (fun hc => ?_))
    obtain rfl : n = 0 := by omega
    simp at h0

section
variable {t xT ty el : TypeId} {i : TypeInfo} {d : TypeDesc}
set_option maxHeartbeats 800000 in
theorem app_room (hu : P.underlying t = some (.slice el)) (hi : P.info? el = some i) (hx : P.underlying xT = some d) (hd : d = .string ∨ ∃ e, d = .slice e) {base : Option Addr} {sLen sCap n : Nat} {X : Value} {News : List Value} {w' : World}
    (hlen : (Builtin.lenOf X).run P w = .ok n w) (hroom : sLen + n ≤ sCap) (hfirst : (Builtin.firstCells i.size n X).run P w = .ok News.toArray w)
    (hst : ∀ a, base = some a → (storeCells (a.add (sLen * i.size)) News).run P w = .ok () w') (hno : base = none → w' = w) :
    (Builtin.append_ #[t, xT] ty #[.slice base sLen sCap, X]).run P w = .ok (.slice base (sLen + n) sCap) w' := by
  cases base with
  | none =>
    obtain rfl := hno rfl
    rcases hd with rfl | ⟨e2, rfl⟩ <;> simp [Builtin.append_, run_underlying hu, run_underlying hx, sizeOf, typeInfo, hi, hlen, hroom, hfirst]
  | some ad =>
    have := hst ad rfl
    rcases hd with rfl | ⟨e2, rfl⟩ <;> simp [Builtin.append_, run_underlying hu, run_underlying hx, sizeOf, typeInfo, hi, hlen, hroom, hfirst, this]
set_option maxHeartbeats 800000 in
theorem app_grow (hu : P.underlying t = some (.slice el)) (hi : P.info? el = some i) {z : Value} (hzz : i.zero = some z) (hx : P.underlying xT = some d) (hd : d = .string ∨ ∃ e, d = .slice e) {base : Option Addr} {sLen sCap n : Nat} {X : Value} {Old News : List Value}
    (hlen : (Builtin.lenOf X).run P w = .ok n w) (hroom : sCap < sLen + n) (hl : sLen ≤ 1048576) (hn : n ≤ 1048576) (hb : i.bytes ≤ 1048576) (hb1 : 1 ≤ i.bytes)
    (hold : (Builtin.firstCells i.size sLen (.slice base sLen sCap)).run P w.drew = .ok Old.toArray w.drew) (hfirst : (Builtin.firstCells i.size n X).run P w.drew = .ok News.toArray w.drew) :
    (Builtin.append_ #[t, xT] ty #[.slice base sLen sCap, X]).run P w = .ok (.slice (some ⟨w.heap.size, 0, none⟩) (sLen + n) (grownCap w (sLen + n) sCap el))
      (w.drew.alloc (.cells (Old.toArray ++ News.toArray ++ Builtin.zeroCells z.cells (grownCap w (sLen + n) sCap el - (sLen + n))) el)) := by
  have h1 : ¬ (sLen + n ≤ sCap) := by omega
  have h2 : ¬ (9223372036854775807 < ((sLen : Int) + (n : Int))) := by omega
  have h3 := growslice_fits (need := sLen + n) (old := sCap) (bytes := i.bytes) hroom (by
    have : (sLen + n) * i.bytes ≤ 2097152 * 1048576 := Nat.mul_le_mul (by omega) hb
    omega)
  have h4 : ¬ (281474976710656 < Builtin.nextslicecap (sLen + n) sCap * i.bytes) := by omega
  rcases hd with rfl | ⟨e2, rfl⟩ <;> simp [Builtin.append_, run_underlying hu, run_underlying hx, sizeOf, typeInfo, zeroValue, hi, hzz, hlen, h1, h2, h4, Question.forced, hold, hfirst, newRow, grownCap]
  all_goals
    congr 2
    apply Array.ext'
    simp
set_option maxHeartbeats 800000 in
theorem apz_room (hu : P.underlying t = some (.slice el)) (hi : P.info? el = some i) {z : Value} (hzz : i.zero = some z) (hzs : z.cells.size = i.size) (hx : P.underlying xT = some d) (hd : isIntD d = true) {base : Option Addr} {sLen sCap n : Nat} {k : IntKind} {w' : World}
    (hroom : sLen + n ≤ sCap) (hn : n ≤ 1048576) (hb : i.bytes ≤ 1048576)
    (hst : ∀ a, base = some a → (storeCells (a.add (sLen * i.size)) (madeCells z.cells (n * i.size)).toList).run P w = .ok () w') (hno : base = none → w' = w) :
    (Builtin.append_ #[t, xT] ty #[.slice base sLen sCap, .int k n]).run P w = .ok (.slice base (sLen + n) sCap) w' := by
  have hw : IntKind.i64.wrap (n : Int) = n := by rw [IntKind.wrap_i64]; omega
  have hneg : ¬ ((n : Int) < 0) := by omega
  have hnb : n * i.bytes ≤ 281474976710656 := Nat.le_trans (Nat.mul_le_mul hn hb) (by omega)
  have h48 : ¬ (281474976710656 < (n : Int) * (i.bytes : Int)) := by rw [← Int.natCast_mul]; omega
  have hmade : Builtin.zeroCells z.cells n = madeCells z.cells (n * i.size) := by simp [Builtin.zeroCells, madeCells, hzs]
  have hd' : ∃ kk, d = .int kk := by cases d <;> simp [isIntD] at hd; exact ⟨_, rfl⟩
  obtain ⟨kk, rfl⟩ := hd'
  by_cases h0 : n * i.size = 0
  · have hm0 : madeCells z.cells (n * i.size) = #[] := by simp [madeCells, h0]
    rw [hm0] at hst
    cases base with
    | none =>
      obtain rfl := hno rfl
      simp [Builtin.append_, run_underlying hu, run_underlying hx, sizeOf, typeInfo, hi, asInt, asIntOf, hw, hneg, h48, hroom, h0]
    | some ad =>
      have := hst ad rfl
      simp at this
      simp [Builtin.append_, run_underlying hu, run_underlying hx, sizeOf, typeInfo, hi, asInt, asIntOf, hw, hneg, h48, hroom, h0, this]
  · cases base with
    | none =>
      obtain rfl := hno rfl
      simp [Builtin.append_, run_underlying hu, run_underlying hx, sizeOf, typeInfo, zeroValue, hzz, hi, asInt, asIntOf, hw, hneg, h48, hroom, h0]
    | some ad =>
      have := hst ad rfl
      simp [Builtin.append_, run_underlying hu, run_underlying hx, sizeOf, typeInfo, zeroValue, hzz, hi, asInt, asIntOf, hw, hneg, h48, hroom, h0, hmade, this]
set_option maxHeartbeats 800000 in
theorem apz_grow (hu : P.underlying t = some (.slice el)) (hi : P.info? el = some i) {z : Value} (hzz : i.zero = some z) (hzs : z.cells.size = i.size) (hx : P.underlying xT = some d) (hd : isIntD d = true) {base : Option Addr} {sLen sCap n : Nat} {k : IntKind} {Old : List Value}
    (hroom : sCap < sLen + n) (hl : sLen ≤ 1048576) (hn : n ≤ 1048576) (hb : i.bytes ≤ 1048576) (hb1 : 1 ≤ i.bytes)
    (hold : (Builtin.firstCells i.size sLen (.slice base sLen sCap)).run P w.drew = .ok Old.toArray w.drew) :
    (Builtin.append_ #[t, xT] ty #[.slice base sLen sCap, .int k n]).run P w = .ok (.slice (some ⟨w.heap.size, 0, none⟩) (sLen + n) (grownCap w (sLen + n) sCap el))
      (w.drew.alloc (.cells (Old.toArray ++ (madeCells z.cells (n * i.size)).toList.toArray ++ Builtin.zeroCells z.cells (grownCap w (sLen + n) sCap el - (sLen + n))) el)) := by
  have hw : IntKind.i64.wrap (n : Int) = n := by rw [IntKind.wrap_i64]; omega
  have hneg : ¬ ((n : Int) < 0) := by omega
  have hnb : n * i.bytes ≤ 281474976710656 := Nat.le_trans (Nat.mul_le_mul hn hb) (by omega)
  have h48 : ¬ (281474976710656 < (n : Int) * (i.bytes : Int)) := by rw [← Int.natCast_mul]; omega
  have hmade : Builtin.zeroCells z.cells n = madeCells z.cells (n * i.size) := by simp [Builtin.zeroCells, madeCells, hzs]
  have hd' : ∃ kk, d = .int kk := by cases d <;> simp [isIntD] at hd; exact ⟨_, rfl⟩
  obtain ⟨kk, rfl⟩ := hd'
  have h1 : ¬ (sLen + n ≤ sCap) := by omega
  have h2 : ¬ (9223372036854775807 < ((sLen : Int) + (n : Int))) := by omega
  have h3 := growslice_fits (need := sLen + n) (old := sCap) (bytes := i.bytes) hroom (by
    have : (sLen + n) * i.bytes ≤ 2097152 * 1048576 := Nat.mul_le_mul (by omega) hb
    omega)
  have h4 : ¬ (281474976710656 < Builtin.nextslicecap (sLen + n) sCap * i.bytes) := by omega
  by_cases h0 : n * i.size = 0
  · have hm0 : madeCells z.cells (n * i.size) = #[] := by simp [madeCells, h0]
    rw [hm0]
    simp [Builtin.append_, run_underlying hu, run_underlying hx, sizeOf, typeInfo, zeroValue, hi, hzz, asInt, asIntOf, hw, hneg, h48, h1, h2, h4, h0, Question.forced, hold, newRow, grownCap]
  · simp [Builtin.append_, run_underlying hu, run_underlying hx, sizeOf, typeInfo, zeroValue, hi, hzz, asInt, asIntOf, hw, hneg, h48, h1, h2, h4, h0, Question.forced, hold, newRow, grownCap, hmade]
end
end
end Ev
end Go.Proofs.YthknbcbkibbncaaGreat

/- DERIVED. The evaluator's append, copy and clear against the model's. -/
namespace Go.Proofs.YthknbcbkibbncaaGreat
namespace Ev
open Go.RowKit

section
variable {P : Program} {Y : Ty} {β : Id → CA} {D : Id → Prop} {B N : Nat} {W w : World} {s s' : S} {e : Env} {a : Act}

structure Apps (P : Program) (el : TypeId) (z : Nat) (zv : Array Value) (w : World) (n : Nat) (News : List Value) (m : Value → Sem Value) : Prop where
  room : ∀ (base : Option Addr) (sLen sCap : Nat) (w' : World), sLen + n ≤ sCap → (∀ a, base = some a → (storeCells (a.add (sLen * z)) News).run P w = .ok () w') → (base = none → w' = w) →
    (m (.slice base sLen sCap)).run P w = .ok (.slice base (sLen + n) sCap) w'
  grow : ∀ (base : Option Addr) (sLen sCap : Nat) (Old : List Value), sCap < sLen + n → sLen ≤ 1048576 → (Builtin.firstCells z sLen (.slice base sLen sCap)).run P w.drew = .ok Old.toArray w.drew →
    (m (.slice base sLen sCap)).run P w = .ok (.slice (some ⟨w.heap.size, 0, none⟩) (sLen + n) (grownCap w (sLen + n) sCap el))
      (w.drew.alloc (.cells (Old.toArray ++ News.toArray ++ Builtin.zeroCells zv (grownCap w (sLen + n) sCap el - (sLen + n))) el))

theorem over_ok {id : Id} {lo m : Nat} {l : List AV} {nid : Id} (h : M.over id lo m l s = some (nid, s')) :
    nid = s.n ∧ s'.n.num = s.n.num + 1 ∧ ∃ k, s.h id = some k ∧ lo + m ≤ k.c.length ∧ k.z.m = none ∧ s'.h = Heap.put (Heap.put s.h id none) s.n (some ⟨k.z.over lo, (k.c.drop lo).take m ++ l⟩) := by
  unfold M.over at h
  split at h
  · cases h
  · rename_i k hk
    split at h
    · cases h
    · rename_i hb
      split at h
      · cases h
      · rename_i n hn
        cases h
        rw [Bool.and_eq_true] at hb
        refine ⟨rfl, ?_, k, hk, Nat.le_of_ble_eq_true hb.2, by simpa using hb.1, ?_⟩
        · rw [(logW_h _ _ _ _).2, (logW_h _ _ _ _).2, (logR_h _ _ _ _).2]
          exact Id.inc_num hn
        · rw [(logW_h _ _ _ _).1, (logW_h _ _ _ _).1, (logR_h _ _ _ _).1]

theorem grow_ok (hr : Rel β D B W s.h w) {zb : Bool} {z n : Nat} {x v : AV} {X : Value} {new : List AV} {el : TypeId} {zv : Array Value} {News : List Value} {m : Value → Sem Value} (hz : 1 ≤ z) (hzv : zv.size = z)
    (h : grow zb z x n new s = some (v, s')) (hx : VR β D x X) (hnew : VRs β D new News) (h1 : ∀ y ∈ new, y.one = true) (hlen : new.length = n * z) (hnl : n ≤ 1048576) (hA : Apps P el z zv w n News m) (hf : Fresh D s.n.num s'.n.num) : Gives P β D B W s s' v (m X) w := by
  have hNl : News.length = n * z := by rw [hnew.length, hlen]
  -- the row that is made
  have fresh : ∀ {old : List AV} {Old : List Value} {base : Option Addr} {sLen sCap : Nat} {id : Id} {t : S}, M.new (zc zb true false) (old ++ new) s = some (id, t) → t = s' → VRs β D old Old → (∀ y ∈ old, y.one = true) → old.length = sLen * z → sCap < sLen + n → sLen ≤ 1048576 →
      (Builtin.firstCells z sLen (.slice base sLen sCap)).run P w.drew = .ok Old.toArray w.drew → v = .so id 0 (sLen + n) (sLen + n) z → X = .slice base sLen sCap → Gives P β D B W s s' v (m X) w := by
    intro old Old base sLen sCap id t h2 ht ho h1o hol hg hl hold hv hX
    subst hX hv ht
    have hOl : Old.length = sLen * z := by rw [ho.length, hol]
    have hid := (new_ok hr.hr h2).1
    have hge := grownCap_ge w (sLen + n) sCap el
    have hrun := hA.grow base sLen sCap Old hg hl hold
    have hcs : (Old.toArray ++ News.toArray ++ Builtin.zeroCells zv (grownCap w (sLen + n) sCap el - (sLen + n))).size = grownCap w (sLen + n) sCap el * z := by
      simp only [Array.size_append, List.size_toArray, size_zeroCells, hzv, hOl, hNl]
      rw [← Nat.add_mul, ← Nat.add_mul]
      congr 1
      omega
    have hall := ho.append hnew
    refine Gives.fresh hr h2 hf rfl (.inr rfl) _ el (0, 0) (fzok_zero _ _) (Cells.ofVRs (o := 0) hall (fun y hy => by rcases List.mem_append.1 hy with hy | hy; exact h1o y hy; exact h1 y hy) (fun j U hU => ?_) ?_) (fun e => by simp [zc] at e) hrun ?_
    · rw [Nat.zero_add]
      have hj : j < (Old ++ News).length := by
        rcases Nat.lt_or_ge j (Old ++ News).length with h' | h'
        · exact h'
        · rw [List.getElem?_eq_none h'] at hU; cases hU
      rw [Array.getElem?_append_left (by simpa using hj)]
      simpa using hU
    · rw [hcs, Nat.zero_add, List.length_append, hol, hlen, ← Nat.add_mul]
      exact Nat.mul_le_mul_right _ hge
    · simp only [VR]
      subst hid
      rw [named_same]
      refine ⟨.inr rfl, Nat.le_refl _, _, _, rfl, ⟨hge, grownCap_le_maxLen _ _ _ _ (show _ ≤ 9223372036854775807 by omega)⟩, .inr rfl, ?_⟩
      simp only [hcs]
      omega
  cases x <;> first | (simp only [grow, M.no] at h; cases h; done) | skip
  · -- nil
    simp only [VR] at hx
    subst hx
    simp only [grow] at h
    cases hb : Nat.beq n 0 <;> rw [hb] at h <;> simp only at h
    · have hn : n ≠ 0 := fun e => by subst e; simp at hb
      obtain ⟨id, u, h2, h3⟩ := bind_some h
      obtain ⟨rfl, rfl⟩ := pure_some h3
      exact fresh (old := []) (Old := []) (base := none) (sLen := 0) (sCap := 0) h2 rfl VRs.nil (by simp) (by simp) (by omega) (by omega) (by simp [Builtin.firstCells]) (by simp) rfl
    · obtain rfl : n = 0 := Nat.eq_of_beq_eq_true hb
      obtain ⟨rfl, rfl⟩ := pure_some h
      exact Gives.same hr (V := .slice none 0 0) (by simp only [VR]) (hA.room none 0 0 w (by omega) (by simp) (fun _ => rfl))
  · -- closed
    rename_i id off len cap
    simp only [VR] at hx
    obtain ⟨hd, rfl⟩ := hx
    simp only [grow] at h
    cases hb : Nat.ble (len + n) cap <;> rw [hb] at h <;> simp only at h
    · have hn : cap < len + n := by
        rcases Nat.lt_or_ge cap (len + n) with h' | h'
        · exact h'
        · rw [Nat.ble_eq_true_of_le h'] at hb; cases hb
      obtain ⟨hl, h⟩ := ifB_some h
      have hl' : len ≤ 1048576 := Nat.le_of_ble_eq_true hl
      obtain ⟨old, u, h2, h3⟩ := bind_some h
      obtain ⟨id2, u2, h4, h5⟩ := bind_some h3
      obtain ⟨rfl, rfl⟩ := pure_some h5
      obtain ⟨g1, g2, g3, Vs, g4, g5, g6, g7, g8⟩ := rd_ok hr.hr h2
      have hload := run_loadCells_list (P := P) w.drew ⟨(β id).blk, (β id).base + off, none⟩ Vs (fun j V hV => by
        rw [add_at]
        exact g6 j V hV)
      rw [g5] at hload
      obtain ⟨n1, n2, n3⟩ := new_ok (s := u) (by rw [g1]; exact hr.hr) h4
      have hOl : Vs.length = len * z := g5
      have hge := grownCap_ge w (len + n) cap el
      have hcs : (Vs.toArray ++ News.toArray ++ Builtin.zeroCells zv (grownCap w (len + n) cap el - (len + n))).size = grownCap w (len + n) cap el * z := by
        simp only [Array.size_append, List.size_toArray, size_zeroCells, hzv, hOl, hNl]
        rw [← Nat.add_mul, ← Nat.add_mul]
        congr 1
        omega
      have hcells : Cells β D (Vs.toArray ++ News.toArray ++ Builtin.zeroCells zv (grownCap w (len + n) cap el - (len + n))) 0 (old ++ new) := by
        refine Cells.ofVRs (o := 0) (g4.append hnew) (fun y hy => by rcases List.mem_append.1 hy with hy | hy; exact g8 y hy; exact h1 y hy) (fun j U hU => ?_) ?_
        · rw [Nat.zero_add]
          have hj : j < (Vs ++ News).length := by
            rcases Nat.lt_or_ge j (Vs ++ News).length with h' | h'
            · exact h'
            · rw [List.getElem?_eq_none h'] at hU; cases hU
          rw [Array.getElem?_append_left (by simpa using hj)]
          simpa using hU
        · rw [hcs, Nat.zero_add, List.length_append, g3, hlen, ← Nat.add_mul]
          exact Nat.mul_le_mul_right _ hge
      have hvr : VR (named β u.n ⟨w.heap.size, 0, (Vs.toArray ++ News.toArray ++ Builtin.zeroCells zv (grownCap w (len + n) cap el - (len + n))).size⟩) (fun j => D j ∨ j = u.n) (.so id2 0 (len + n) (len + n) z) (.slice (some ⟨w.heap.size, 0, none⟩) (len + n) (grownCap w (len + n) cap el)) := by
        simp only [VR]
        rw [n1, named_same]
        refine ⟨.inr rfl, Nat.le_refl _, _, _, rfl, ⟨hge, grownCap_le_maxLen _ _ _ _ (show _ ≤ 9223372036854775807 by omega)⟩, .inr rfl, ?_⟩
        simp only [hcs]
        omega
      have hru : Rel β D B W u.h w := ⟨by rw [g1]; exact hr.hr, hr.bel⟩
      have hfu : Fresh D u.n.num s'.n.num := by rw [g2]; exact hf
      obtain ⟨β', D', w', V, x1, x2, x3, x4⟩ := Gives.fresh hru h4 hfu rfl (.inr rfl) _ el (0, 0) (fzok_zero _ _) hcells (fun e => by simp [zc] at e) (hA.grow (some ⟨(β id).blk, (β id).base + off, none⟩) len cap Vs hn hl' (by simpa only [Builtin.firstCells] using hload)) hvr
      exact ⟨β', D', w', V, by rw [← g2]; exact x1, x2, x3, x4⟩
    · obtain ⟨u0, t, h2, h3⟩ := bind_some h
      obtain ⟨rfl, rfl⟩ := pure_some h3
      obtain ⟨g1, g2, g3, g4⟩ := wr_ok (P := P) hr.hr hnew h1 h2
      have hle : len + n ≤ cap := Nat.le_of_ble_eq_true hb
      refine ⟨β, D, _, .slice (some ⟨(β id).blk, (β id).base + off, none⟩) (len + n) cap, by rw [g1]; exact Ext.refl _ _ _, ⟨g2, setCells_below _ _ (hr.hr.old id hd) _ _ _ _ hr.bel⟩, by simp only [VR]; first | exact ⟨hd, rfl⟩ | exact ⟨hd, trivial⟩, ?_⟩
      refine hA.room _ len cap _ hle (fun a ha => ?_) (by simp)
      cases ha
      rw [add_at, Nat.add_assoc]
      exact g4
  · -- open
    rename_i id off len k w'
    simp only [VR] at hx
    obtain ⟨hd, hlk, q, cap, rfl, hkc, hq, hlim⟩ := hx
    simp only [grow] at h
    have h0 := ifB_some h
    clear h
    obtain ⟨hwz, h⟩ := h0
    obtain rfl := Nat.eq_of_beq_eq_true hwz
    clear hwz
    cases hb : Nat.ble (len + n) k <;> rw [hb] at h <;> simp only at h
    · have hn : k < len + n := by
        rcases Nat.lt_or_ge k (len + n) with h' | h'
        · exact h'
        · rw [Nat.ble_eq_true_of_le h'] at hb; cases hb
      obtain ⟨hl, h⟩ := ifB_some h
      have hl' : len ≤ 1048576 := Nat.le_of_ble_eq_true hl
      obtain ⟨id2, u, h2, h3⟩ := bind_some h
      obtain ⟨rfl, rfl⟩ := pure_some h3
      obtain ⟨n1, n2, kk, hkk, hkl, hkm, hh⟩ := over_ok h2
      have hdn : ¬ D s.n := hf s.n (Nat.le_refl _) (by omega)
      by_cases hroom : len + n ≤ cap
      · -- in its place
        obtain rfl : q = (β id).base + off := hq.resolve_left (by omega)
        obtain ⟨did, c, el', fz, hb2, hs2, hf2, hc2, hzk2⟩ := hr.hr.cells hkk hkm
        have hfit : (β id).base + off + len * z + new.length ≤ (β id).lim := by
          rw [hlen, ← hlim]
          have : len * z + n * z ≤ cap * z := by rw [← Nat.add_mul]; exact Nat.mul_le_mul_right _ hroom
          omega
        have hon := hr.hr.onto hdn hkk hkm off (len * z) hkl hnew h1 hfit
        have hone : ∀ V ∈ News, V.oneCell' = true := fun V hV => by
          obtain ⟨j, hj⟩ := List.getElem?_of_mem hV
          obtain ⟨x, hx, hv⟩ := hnew.back j V hj
          exact hv.one (h1 x (List.mem_of_getElem? hx))
        have hst := run_storeCells_cells (P := P) (β id).blk ((β id).base + off + len * z) News 0 w
          (fun j hj => (hr.hr.there hkk hkm _ (by rw [hnew.length] at hj; omega)).1) (fun j hj => (hr.hr.there hkk hkm _ (by rw [hnew.length] at hj; omega)).2) hone
        refine ⟨_, _, _, .slice (some ⟨(β id).blk, (β id).base + off, none⟩) (len + n) cap, ?_, ⟨by rw [hh]; exact hon, setCells_below _ _ (hr.hr.old id hd) _ _ _ _ hr.bel⟩, ?_, ?_⟩
        · rw [n2]; exact named_ext β _ hdn
        · simp only [VR]
          subst n1
          rw [named_same]
          refine ⟨.inr rfl, Nat.le_refl _, _, _, rfl, ⟨hroom, hkc.2⟩, .inr rfl, ?_⟩
          simp only
          omega
        · refine hA.room _ len cap _ hroom (fun a ha => ?_) (by simp)
          cases ha
          rw [add_at]
          simpa using hst
      · -- a new row
        have hrm : cap < len + n := by omega
        obtain ⟨Vs, v1, v2, v3, v4, v5⟩ := hr.hr.read hkk hkm off (len * z) hkl
        have hload := run_loadCells_list (P := P) w.drew ⟨(β id).blk, q, none⟩ Vs (fun j V hV => by
          have hj : j < Vs.length := by
            rcases Nat.lt_or_ge j Vs.length with h' | h'
            · exact h'
            · rw [List.getElem?_eq_none h'] at hV; cases hV
          have hlen0 : len ≠ 0 := fun e => by rw [e, Nat.zero_mul] at v2; omega
          rw [add_at, hq.resolve_left (by omega)]
          exact v3 j V hV)
        rw [v2] at hload
        have hrun := hA.grow (some ⟨(β id).blk, q, none⟩) len cap Vs hrm hl' (by simpa only [Builtin.firstCells] using hload)
        have hge := grownCap_ge w (len + n) cap el
        have hcs : (Vs.toArray ++ News.toArray ++ Builtin.zeroCells zv (grownCap w (len + n) cap el - (len + n))).size = grownCap w (len + n) cap el * z := by
          simp only [Array.size_append, List.size_toArray, size_zeroCells, hzv, v2, hNl]
          rw [← Nat.add_mul, ← Nat.add_mul]
          congr 1
          omega
        have hcells : Cells β D (Vs.toArray ++ News.toArray ++ Builtin.zeroCells zv (grownCap w (len + n) cap el - (len + n))) 0 ((kk.c.drop off).take (len * z) ++ new) := by
          refine Cells.ofVRs (o := 0) (v1.append hnew) (fun y hy => by rcases List.mem_append.1 hy with hy | hy; exact v5 y hy; exact h1 y hy) (fun j U hU => ?_) ?_
          · rw [Nat.zero_add]
            have hj : j < (Vs ++ News).length := by
              rcases Nat.lt_or_ge j (Vs ++ News).length with h' | h'
              · exact h'
              · rw [List.getElem?_eq_none h'] at hU; cases hU
            rw [Array.getElem?_append_left (by simpa using hj)]
            simpa using hU
          · rw [hcs, Nat.zero_add, List.length_append, hlen, List.length_take, List.length_drop, Nat.min_eq_left (by omega), ← Nat.add_mul]
            exact Nat.mul_le_mul_right _ hge
        have hgone : HR β D B (Heap.put s.h id none) w.drew := Ext.drew_heap (hr.hr.gone id) rfl
        have hfr := hgone.fresh hdn (kk.z.over off) rfl _ el (0, 0) (fzok_zero _ _) hcells (fun e => by simp [Zf.over, zc] at e)
        refine ⟨_, _, _, _, ?_, ⟨by rw [hh]; exact hfr, hr.bel.drew.alloc hr.hr.size _⟩, ?_, hrun⟩
        · rw [n2]; exact named_ext β _ hdn
        · simp only [VR]
          subst n1
          rw [named_same]
          refine ⟨.inr rfl, Nat.le_refl _, _, _, rfl, ⟨hge, grownCap_le_maxLen _ _ _ _ (show _ ≤ 9223372036854775807 by omega)⟩, .inr rfl, ?_⟩
          simp only [hcs]
          omega
    · obtain ⟨u0, t, h2, h3⟩ := bind_some h
      obtain ⟨rfl, rfl⟩ := pure_some h3
      have hle : len + n ≤ k := Nat.le_of_ble_eq_true hb
      obtain ⟨g1, g2, g3, g4⟩ := wr_ok (P := P) hr.hr hnew h1 h2
      refine ⟨β, D, _, .slice (some ⟨(β id).blk, q, none⟩) (len + n) cap, by rw [g1]; exact Ext.refl _ _ _, ⟨g2, setCells_below _ _ (hr.hr.old id hd) _ _ _ _ hr.bel⟩, by simp only [VR]; exact ⟨hd, hle, q, cap, rfl, hkc, hq, hlim⟩, ?_⟩
      refine hA.room _ len cap _ (by omega) (fun a ha => ?_) (by simp)
      cases ha
      by_cases hn0 : n = 0
      · subst hn0
        have : News = [] := List.eq_nil_of_length_eq_zero (by simpa using hNl)
        subst this
        rfl
      · rw [add_at, hq.resolve_left (by omega), Nat.add_assoc]
        exact g4
end
end Ev
end Go.Proofs.YthknbcbkibbncaaGreat

/- DERIVED. The evaluator's append, copy, clear and conversions against the model's, whole. -/
namespace Go.Proofs.YthknbcbkibbncaaGreat
namespace Ev
open Go.RowKit

section
variable {P : Program} {Y : Ty} {β : Id → CA} {D : Id → Prop} {B N : Nat} {W w : World} {s s' u : S} {e : Env} {a : Act}

theorem Same.rel (h : Same s u) (hr : Rel β D B W s.h w) : Rel β D B W u.h w := ⟨by rw [h.1]; exact hr.hr, hr.bel⟩
theorem Same.from (h : Same s u) {v : AV} {m : Sem Value} (hg : Gives P β D B W u s' v m w) : Gives P β D B W s s' v m w := by
  obtain ⟨β', D', w', V, x1, x2⟩ := hg
  exact ⟨β', D', w', V, by rw [← h.2]; exact x1, x2⟩
theorem okE_ok {i : TypeInfo} (h : okE i = true) : i.bytes ≤ 1048576 ∧ 1 ≤ i.bytes ∧ 1 ≤ i.size := by
  simp only [okE, Bool.and_eq_true] at h
  exact ⟨Nat.le_of_ble_eq_true h.1, Nat.le_of_ble_eq_true h.2.1, Nat.le_of_ble_eq_true h.2.2⟩

theorem app_ok (hY : TyOk P Y) (hr : Rel β D B W s.h w) {sT xT ty el : TypeId} {i : TypeInfo} {d : TypeDesc} {cs : List AV} {z : Bool} (hel : elemS Y sT = some el) (hi : Y.t el = some i) (hk : okE i = true) (hx : under Y xT = some d) (hd : d = .string ∨ ∃ e, d = .slice e) (hcs : zeroT Y el = some cs)
    {x y v : AV} {X Z : Value} (h : appF z i.size x y s = some (v, s')) (hX : VR β D x X) (hZ : VR β D y Z) (hf : Fresh D s.n.num s'.n.num) : Gives P β D B W s s' v (Builtin.append_ #[sT, xT] ty #[X, Z]) w := by
  obtain ⟨n, hn, h⟩ := ofO_some h
  obtain ⟨hl, h⟩ := ifB_some h
  obtain ⟨new, u, h1, h2⟩ := bind_some h
  have hl' : n ≤ 1048576 := Nat.le_of_ble_eq_true hl
  obtain ⟨b1, b2, b3⟩ := okE_ok hk
  obtain ⟨hs, News, g1, g2, g3, g4⟩ := first_ok (P := P) hr.hr h1 hZ hn (Nat.le_refl _)
  obtain ⟨i', zv, hi', hz, hzr, hzv, o1, hlen, hYt⟩ := zeroT_ok hY hcs β D
  obtain rfl : i' = i := by rw [hi] at hYt; cases hYt; rfl
  have hu := elemS_ok hY hel
  have hux := under_ok hY hx
  have hzs : zv.cells.size = i'.size := by have := hzv.length; simp at this; omega
  have hA : Apps P el i'.size zv.cells w n News fun S => Builtin.append_ #[sT, xT] ty #[S, Z] :=
    ⟨fun base sLen sCap w' hroom hst hno => app_room hu hi' hux hd (lenO_ok hn hZ w) hroom (g4 w rfl) hst hno,
     fun base sLen sCap Old hroom hsl hold => app_grow hu hi' hz hux hd (lenO_ok hn hZ w) hroom hsl hl' b1 b2 hold (g4 w.drew rfl)⟩
  exact hs.from (grow_ok (hs.rel hr) b3 hzs h2 hX g1 g2 g3 hl' hA (by rw [hs.2]; exact hf))
theorem apz_ok (hY : TyOk P Y) (hr : Rel β D B W s.h w) {sT xT ty el : TypeId} {i : TypeInfo} {k0 : IntKind} {cs : List AV} {z : Bool} (hel : elemS Y sT = some el) (hi : Y.t el = some i) (hk : okE i = true) (hx : under Y xT = some (.int k0)) (hcs : zeroT Y el = some cs)
    {x y v : AV} {X Z : Value} (h : apzF z i.size cs x y s = some (v, s')) (hX : VR β D x X) (hZ : VR β D y Z) (hf : Fresh D s.n.num s'.n.num) : Gives P β D B W s s' v (Builtin.append_ #[sT, xT] ty #[X, Z]) w := by
  obtain ⟨n, hn, h⟩ := ofO_some h
  obtain ⟨hl, h⟩ := ifB_some h
  have hl' : n ≤ 1048576 := Nat.le_of_ble_eq_true hl
  obtain ⟨k, rfl⟩ := natOf_ok hn hZ
  obtain ⟨b1, b2, b3⟩ := okE_ok hk
  obtain ⟨i', zv, hi', hz, hzr, hzv, o1, hlen, hYt⟩ := zeroT_ok hY hcs β D
  obtain rfl : i' = i := by rw [hi] at hYt; cases hYt; rfl
  have hu := elemS_ok hY hel
  have hux := under_ok hY hx
  have hzs : zv.cells.size = i'.size := by have := hzv.length; simp at this; omega
  have hrep := made_vr hzv n
  rw [hlen] at hrep
  have hA : Apps P el i'.size zv.cells w n (madeCells zv.cells (n * i'.size)).toList fun S => Builtin.append_ #[sT, xT] ty #[S, .int k n] :=
    ⟨fun base sLen sCap w' hroom hst hno => apz_room hu hi' hz hzs hux rfl hroom hl' b1 hst hno,
     fun base sLen sCap Old hroom hsl hold => apz_grow hu hi' hz hzs hux rfl hroom hsl hl' b1 b2 hold⟩
  exact grow_ok hr b3 hzs h hX hrep (repL_one o1 n) (by rw [repL_length, hlen]) hl' hA hf

theorem cpy_ok (hY : TyOk P Y) (hr : Rel β D B W s.h w) {dT sT ty el : TypeId} {z : Nat} (hel : elemS Y dT = some el) (hz : sizeT Y el = some z) {x y v : AV} {X Z : Value}
    (h : cpyF z x y s = some (v, s')) (hX : VR β D x X) (hZ : VR β D y Z) : Gives P β D B W s s' v (Builtin.copy_ #[dT, sT] ty #[X, Z]) w := by
  have h0 := ofO_some h
  clear h
  obtain ⟨m, hm, h⟩ := h0
  have hu := elemS_ok hY hel
  have hsz := size_ok hY hz
  have hlen := lenO_ok (P := P) hm hZ w
  have min1 : ∀ len : Nat, minN m len = Nat.min m len := fun len => by rw [minN_ok]
  cases x <;> first | (simp only [M.no] at h; cases h; done) | skip
  · -- nil
    obtain ⟨rfl, rfl⟩ := pure_some h
    simp only [VR] at hX
    subst hX
    have hfirst : (Builtin.firstCells z 0 Z).run P w = .ok #[] w := by
      cases y <;> simp only [lenO] at hm <;> try (cases hm; done)
      all_goals simp only [VR] at hZ
      · obtain ⟨rfl, _⟩ := hZ
        simp only [Builtin.firstCells, Sem.run_pure]
        congr 1
        apply Array.ext'
        simp [ByteArray.data_extract]
      · subst hZ; simp [Builtin.firstCells]
      · obtain ⟨_, rfl⟩ := hZ; simp [Builtin.firstCells, loadCells, loadCellsFrom]
      · obtain ⟨_, _, q, cap, rfl, _⟩ := hZ; simp [Builtin.firstCells, loadCells, loadCellsFrom]
    exact Gives.same hr (V := .int .i64 0) (by simp [VR]) (by simp [Builtin.copy_, run_underlying hu, hlen, hsz, hfirst, goInt])
  · rename_i id off len cap
    obtain ⟨l, u, h1, h2⟩ := bind_some h
    obtain ⟨u0, t, h3, h4⟩ := bind_some h2
    obtain ⟨rfl, rfl⟩ := pure_some h4
    simp only [VR] at hX
    obtain ⟨hd, rfl⟩ := hX
    obtain ⟨hs, News, g1, g2, g3, g4⟩ := first_ok (P := P) hr.hr h1 hZ hm (by rw [minN_ok]; omega)
    obtain ⟨k1, k2, k3, k4⟩ := wr_ok (P := P) (hs.rel hr).hr g1 g2 h3
    refine ⟨β, D, _, .int .i64 (Int.ofNat (minN m len)), by rw [k1, hs.2]; exact Ext.refl _ _ _, ⟨k2, setCells_below _ _ (hr.hr.old id hd) _ _ _ _ hr.bel⟩, by simp only [VR], ?_⟩
    have := g4 w rfl
    rw [min1] at this
    simp [Builtin.copy_, run_underlying hu, hlen, hsz, this, k4, goInt, min1]
  · rename_i id off len k w'
    obtain ⟨l, u, h1, h2⟩ := bind_some h
    obtain ⟨u0, t, h3, h4⟩ := bind_some h2
    obtain ⟨rfl, rfl⟩ := pure_some h4
    simp only [VR] at hX
    obtain ⟨hd, hlk, q, cap, rfl, hkc, hq, hlim⟩ := hX
    obtain ⟨hs, News, g1, g2, g3, g4⟩ := first_ok (P := P) hr.hr h1 hZ hm (by rw [minN_ok]; omega)
    obtain ⟨k1, k2, k3, k4⟩ := wr_ok (P := P) (hs.rel hr).hr g1 g2 h3
    refine ⟨β, D, _, .int .i64 (Int.ofNat (minN m len)), by rw [k1, hs.2]; exact Ext.refl _ _ _, ⟨k2, setCells_below _ _ (hr.hr.old id hd) _ _ _ _ hr.bel⟩, by simp only [VR], ?_⟩
    have := g4 w rfl
    rw [min1] at this
    have hst : (storeCells ⟨(β id).blk, q, none⟩ News).run P w = .ok () (w.setCells (β id).blk ((β id).base + off) News) := by
      by_cases h0 : len = 0
      · have : News = [] := by
          have h5 := g1.length
          rw [g3, minN_ok, h0] at h5
          exact List.eq_nil_of_length_eq_zero (by simpa using h5)
        subst this
        rfl
      · rw [hq.resolve_left (by omega)]
        exact k4
    simp [Builtin.copy_, run_underlying hu, hlen, hsz, this, hst, goInt, min1]
theorem clr_ok (hY : TyOk P Y) (hr : Rel β D B W s.h w) {dT ty el : TypeId} {cs : List AV} (hel : elemS Y dT = some el) (hcs : zeroT Y el = some cs) {x v : AV} {X : Value}
    (h : clrF cs x s = some (v, s')) (hX : VR β D x X) : Gives P β D B W s s' v (Builtin.clear_ #[dT] ty #[X]) w := by
  have hu := elemS_ok hY hel
  obtain ⟨i, zv, hi', hz, hzr, hzv, o1, hlen, hYt⟩ := zeroT_ok hY hcs β D
  have hzs : zv.cells.size = i.size := by have := hzv.length; simp at this; omega
  have hmade : ∀ n, Builtin.zeroCells zv.cells n = madeCells zv.cells (n * i.size) := fun n => by simp [Builtin.zeroCells, madeCells, hzs]
  have tu : VR β D (.tu []) (.tuple #[]) := by simp only [VR]; exact ⟨[], rfl, VRs.nil⟩
  cases x <;> first | (simp only [clrF, M.no] at h; cases h; done) | skip
  · obtain ⟨rfl, rfl⟩ := pure_some h
    simp only [VR] at hX
    subst hX
    exact Gives.same hr tu (by simp [Builtin.clear_, run_underlying hu])
  · rename_i id off len cap
    obtain ⟨u0, t, h3, h4⟩ := bind_some h
    obtain ⟨rfl, rfl⟩ := pure_some h4
    simp only [VR] at hX
    obtain ⟨hd, rfl⟩ := hX
    have hrep := made_vr hzv len
    rw [hlen] at hrep
    obtain ⟨k1, k2, k3, k4⟩ := wr_ok (P := P) hr.hr hrep (repL_one o1 len) h3
    refine ⟨β, D, _, .tuple #[], by rw [k1]; exact Ext.refl _ _ _, ⟨k2, setCells_below _ _ (hr.hr.old id hd) _ _ _ _ hr.bel⟩, tu, ?_⟩
    cases len with
    | zero =>
      have : madeCells zv.cells (0 * i.size) = #[] := by simp [madeCells]
      rw [this]
      simp [Builtin.clear_, run_underlying hu]
      rfl
    | succ len => simp [Builtin.clear_, run_underlying hu, hzr, hmade, k4]
  · rename_i id off len k w'
    obtain ⟨u0, t, h3, h4⟩ := bind_some h
    obtain ⟨rfl, rfl⟩ := pure_some h4
    simp only [VR] at hX
    obtain ⟨hd, hlk, q, cap, rfl, hkc, hq, hlim⟩ := hX
    have hrep := made_vr hzv len
    rw [hlen] at hrep
    obtain ⟨k1, k2, k3, k4⟩ := wr_ok (P := P) hr.hr hrep (repL_one o1 len) h3
    refine ⟨β, D, _, .tuple #[], by rw [k1]; exact Ext.refl _ _ _, ⟨k2, setCells_below _ _ (hr.hr.old id hd) _ _ _ _ hr.bel⟩, tu, ?_⟩
    cases len with
    | zero =>
      have : madeCells zv.cells (0 * i.size) = #[] := by simp [madeCells]
      rw [this]
      simp [Builtin.clear_, run_underlying hu]
      rfl
    | succ len =>
      rw [hq.resolve_left (by omega)]
      simp [Builtin.clear_, run_underlying hu, hzr, hmade, k4]

theorem cvb_ok (hr : Rel β D B W s.h w) {sT dT el : TypeId} (hs : P.underlying sT = some .string) (hd : P.underlying dT = some (.slice el)) (he : P.underlying el = some (.int .u8)) {x v : AV} {X : Value}
    (h : cvbF x s = some (v, s')) (hX : VR β D x X) (hf : Fresh D s.n.num s'.n.num) : Gives P β D B W s s' v (convert sT dT X) w := by
  cases x <;> first | (simp only [cvbF, M.no] at h; cases h; done) | skip
  rename_i b
  obtain ⟨hlb, h⟩ := ifB_some h
  have hlb' : b.length ≤ 1048576 := Nat.le_of_ble_eq_true hlb
  obtain ⟨id, u, h1, h2⟩ := bind_some h
  obtain ⟨rfl, rfl⟩ := pure_some h2
  simp only [VR] at hX
  obtain ⟨rfl, hb⟩ := hX
  have hsz : (⟨(b.map UInt8.ofNat).toArray⟩ : ByteArray).size = b.length := by show (List.map UInt8.ofNat b).toArray.size = _; simp
  have hrun := run_bytes_of_string (P := P) w sT dT el ⟨(b.map UInt8.ofNat).toArray⟩ hs hd he
  rw [hsz] at hrun
  have hid := (new_ok hr.hr h1).1
  have hge := grownCap_ge w b.length 0 el
  have hcs : (bytesRow ⟨(b.map UInt8.ofNat).toArray⟩ (grownCap w b.length 0 el)).size = grownCap w b.length 0 el := by
    simp [bytesRow, hsz]
    omega
  refine Gives.fresh hr h1 hf rfl (.inr rfl) _ el _ ?_ ?_ (fun e => by simp [zc] at e) hrun ?_
  · exact .inr (Nat.le_refl _)
  · refine ⟨?_, ?_, fun j v hv => ?_⟩
    · rw [hcs]; simp [bytesL]; exact hge
    · intro v hv
      simp only [bytesL, List.mem_map] at hv
      obtain ⟨_, _, rfl⟩ := hv
      rfl
    · simp only [bytesL, List.getElem?_map] at hv
      cases hq : b[j]? with
      | none => rw [hq] at hv; cases hv
      | some q =>
        rw [hq] at hv
        simp only [Option.map_some, Option.some.injEq] at hv
        subst hv
        have hj : j < b.length := (List.getElem?_eq_some_iff.1 hq).1
        have hqlt := hb q (List.mem_of_getElem? hq)
        refine ⟨.int .u8 (q : Int), ?_, by simp only [VR]; rfl⟩
        simp only [bytesRow, Nat.zero_add]
        rw [Array.getElem?_append_left (by simp; exact hj)]
        simp [hq]
        omega
  · simp only [VR]
    subst hid
    rw [named_same]
    refine ⟨.inr rfl, Nat.le_refl _, _, _, rfl, ⟨hge, grownCap_le_maxLen _ _ _ _ (show _ ≤ 9223372036854775807 by omega)⟩, .inr rfl, ?_⟩
    simp only [hcs]
    omega
theorem bytesOf_ok : ∀ {l : List AV} {bs : List Nat} {Vs : List Value}, bytesOf l = some bs → VRs β D l Vs → Vs = bs.map (fun n : Nat => Value.int .u8 (n : Int)) ∧ ∀ b ∈ bs, b < 256
  | [], bs, Vs, h, hv => by
    simp only [bytesOf] at h
    cases h
    simp only [VRs] at hv
    exact ⟨hv, by simp⟩
  | v :: l, bs, Vs, h, hv => by
    simp only [VRs] at hv
    obtain ⟨V, Us, rfl, hV, hU⟩ := hv
    cases v <;> simp only [bytesOf] at h <;> try (cases h; done)
    rename_i k x
    cases k <;> try (cases h; done)
    cases x <;> try (cases h; done)
    rename_i q
    simp only at h
    cases hb : Nat.blt q 256 <;> rw [hb] at h <;> simp only at h
    · cases h
    · cases hr : bytesOf l <;> rw [hr] at h <;> simp only at h <;> cases h
      obtain ⟨e1, e2⟩ := bytesOf_ok hr hU
      simp only [VR] at hV
      refine ⟨by rw [hV, e1]; rfl, fun b hbm => ?_⟩
      rcases List.mem_cons.1 hbm with rfl | hbm
      · exact Nat.le_of_ble_eq_true hb
      · exact e2 b hbm
theorem cvt_ok (hr : Rel β D B W s.h w) {sT dT el : TypeId} (hs : P.underlying sT = some (.slice el)) (hd : P.underlying dT = some .string) (he : P.underlying el = some (.int .u8)) {x v : AV} {X : Value}
    (h : cvtF x s = some (v, s')) (hX : VR β D x X) : Gives P β D B W s s' v (convert sT dT X) w := by
  have fin : ∀ {id : Id} {off len cap q : Nat}, M.bind (M.rd id off len) cvtL s = some (v, s') → (len ≠ 0 → q = (β id).base + off) → Gives P β D B W s s' v (convert sT dT (.slice (some ⟨(β id).blk, q, none⟩) len cap)) w := by
    intro id off len cap q h hq
    obtain ⟨l, u, h1, h2⟩ := bind_some h
    obtain ⟨bs, hbs, h3⟩ := ofO_some h2
    obtain ⟨rfl, rfl⟩ := pure_some h3
    obtain ⟨g1, g2, g3, Vs, g4, g5, g6, g7, g8⟩ := rd_ok hr.hr h1
    obtain ⟨e1, e2⟩ := bytesOf_ok hbs g4
    have hbl : (bs.map UInt8.ofNat).length = len := by rw [e1] at g5; simpa using g5
    have := run_convert_bytes_back (P := P) w sT dT el ⟨(β id).blk, q, none⟩ cap (bs.map UInt8.ofNat) hs he hd (fun j hj => by
      rw [add_at, hq (by omega)]
      refine g6 j _ ?_
      rw [e1]
      have hj' : j < bs.length := by simpa using hj
      have hlt := e2 bs[j] (List.getElem_mem hj')
      simp [hj']
      omega)
    rw [hbl] at this
    exact ⟨β, D, w, .string ⟨(bs.map UInt8.ofNat).toArray⟩, by rw [g2]; exact Ext.refl _ _ _, ⟨by rw [g1]; exact hr.hr, hr.bel⟩, by simp only [VR]; first | exact ⟨rfl, e2⟩ | exact ⟨trivial, e2⟩, this⟩
  cases x <;> first | (simp only [cvtF, M.no] at h; cases h; done) | skip
  · obtain ⟨rfl, rfl⟩ := pure_some h
    simp only [VR] at hX
    subst hX
    exact Gives.same hr (V := .string .empty) (by simp only [VR]; exact ⟨rfl, by simp⟩) (by simp [convert, run_underlying hs, run_underlying hd, run_underlying he, Conv.bytesToString])
  · simp only [VR] at hX
    obtain ⟨_, rfl⟩ := hX
    exact fin h (fun _ => rfl)
  · simp only [VR] at hX
    obtain ⟨_, hlk, q, cap, rfl, hkc, hq, _⟩ := hX
    exact fin h (fun h0 => hq.resolve_left (by omega))
end
end Ev
end Go.Proofs.YthknbcbkibbncaaGreat

/- DERIVED. One operation: what the evaluator gives is what the model does. -/
namespace Go.Proofs.YthknbcbkibbncaaGreat
namespace Ev
open Go.RowKit

section
variable {P : Program} {Y : Ty} {β : Id → CA} {D : Id → Prop} {B N : Nat} {W w : World} {s s' u : S} {e : Env} {a : Act}

theorem HR.mark {h : Heap} (hr : HR β D B h w) {id : Id} {k : Blk} (hk : h id = some k) (hm0 : k.z.m = none) (hz : k.z.s = true) : ∃ w', (∀ q, (markStringish ⟨(β id).blk, q, none⟩).run P w = .ok () w') ∧ HR β D B h w' ∧ (∀ W, Below B W w → Below B W w') := by
  obtain ⟨hd, c, el, fz, hb, hs, hf, hc, hzk⟩ := hr.cells hk hm0
  rw [hz] at hf
  simp only [fzok] at hf
  have hpos : c.size < c.size + 1 := Nat.lt_succ_self _
  refine ⟨w.freeze ⟨(β id).blk, c.size, none⟩ 1, fun q => ?_, ?_, ?_⟩
  · simp [markStringish, World.shape?, hb]
  · have hsame : (w.freeze ⟨(β id).blk, c.size, none⟩ 1).heap[(β id).blk]? = some (.cells c el (if fz.1 == fz.2 then (c.size, c.size + 1) else (min fz.1 c.size, max fz.2 (c.size + 1)))) := by
      simp [World.freeze, Array.getElem?_modify, hb]
    have hoth : ∀ i, i ≠ (β id).blk → (w.freeze ⟨(β id).blk, c.size, none⟩ 1).heap[i]? = w.heap[i]? := fun i hi => by
      simp [World.freeze, Array.getElem?_modify]
      intro h; exact absurd h.symm hi
    refine ⟨fun j kk hkk => ?_, hr.inj, hr.old, by simpa [World.freeze] using hr.size⟩
    by_cases hj : (β j).blk = (β id).blk
    · obtain rfl : j = id := hr.inj j id (by rw [hkk]; simp) (by rw [hk]; simp) hj
      obtain rfl : kk = k := by rw [hk] at hkk; cases hkk; rfl
      refine ⟨hd, ?_⟩
      unfold LiveB
      rw [hm0]
      refine ⟨c, el, _, hsame, hs, ?_, hc, hzk⟩
      rw [hz]
      simp only [fzok]
      by_cases he : fz.1 = fz.2
      · simp [he]
      · simp only [beq_iff_eq, he, if_false]
        have := hf.resolve_left he
        right
        omega
    · obtain ⟨g1, g2⟩ := hr.live j kk hkk
      exact ⟨g1, g2.keep (Ext.refl β D 0) (hoth _ hj)⟩
  · intro W hW
    have hB := hr.old id hd
    refine hW.trans ⟨rfl, rfl, rfl, by simp [World.freeze], fun i hi => ?_⟩
    simp [World.freeze, Array.getElem?_modify]
    intro h; omega
theorem cvm_ok (hr : Rel β D B W s.h w) {t e1 el : TypeId} (hs : P.underlying t = some (.slice e1)) (hd : P.underlying t = some (.slice el)) (he : P.underlying el = some (.int .u8)) {x v : AV} {X : Value}
    (h : cvmF x s = some (v, s')) (hX : VR β D x X) : Gives P β D B W s s' v (convert t t X) w := by
  have key : ∀ {id : Id} {q len cap : Nat} {y : AV}, M.bind (M.shared id) (fun z => M.ifB z.s (M.pure y)) s = some (v, s') → VR β D y (.slice (some ⟨(β id).blk, q, none⟩) len cap) → Gives P β D B W s s' v (convert t t (.slice (some ⟨(β id).blk, q, none⟩) len cap)) w := by
    intro id q len cap y h hy
    obtain ⟨z, u, h1, h2⟩ := bind_some h
    obtain ⟨hz, h3⟩ := ifB_some h2
    obtain ⟨rfl, rfl⟩ := pure_some h3
    obtain ⟨g1, g2, k, hk, hkz, hkm⟩ := shared_ok h1
    obtain ⟨w', m1, m2, m3⟩ := hr.hr.mark (P := P) hk hkm (by rw [hkz]; exact hz)
    refine ⟨β, D, w', _, by rw [g2]; exact Ext.refl _ _ _, ⟨by rw [g1]; exact m2, m3 W hr.bel⟩, hy, ?_⟩
    simp [convert, run_underlying hd, run_underlying he, m1]
  cases x <;> first | (simp only [cvmF, M.no] at h; cases h; done) | skip
  · have hX' := hX
    simp only [VR] at hX'
    obtain ⟨_, rfl⟩ := hX'
    exact key h hX
  · have hX' := hX
    simp only [VR] at hX'
    obtain ⟨_, _, q, cap, rfl, _⟩ := hX'
    exact key h hX

def FnOk (P : Program) (F : Fns) : Prop := ∀ f l s v s', F.fn f l s = some (v, s') → ∀ β D B W w L, VRs β D l L → Rel β D B W s.h w → Fresh D s.n.num s'.n.num →
  (callFunc f L.toArray).run P w = .ok (.enter f L.toArray) w ∧
    Calls P f L.toArray w fun e w' => ∃ β' D' V, e = .returned V ∧ Ext β D β' D' s.n.num s'.n.num ∧ Rel β' D' B W s'.h w' ∧ VR β' D' v V

def Goes (β : Id → CA) (D : Id → Prop) (B : Nat) (W : World) (s s' : S) (v : AV) (K : Value → World → Prop) : Prop :=
  ∀ β' D' w' V, Ext β D β' D' s.n.num s'.n.num → Rel β' D' B W s'.h w' → VR β' D' v V → K V w'

theorem wp_gives {o : Oper} {v : AV} {m : Sem Value} (hex : execOp a.eval o = (do pure (.value (← m)))) (hg : Gives P β D B W s s' v m w) {K : Act → World → Prop} {Q : Exit → Act → World → Prop} (hK : Goes β D B W s s' v fun V w' => K (a.put o.dst V) w') : o.wp P a w K Q := by
  obtain ⟨β', D', w', V, h1, h2, h3, h4⟩ := hg
  unfold Oper.wp
  rw [hex, Sem.run_bind, h4]
  exact hK β' D' w' V h1 h2 h3
theorem cAs_ok (he : ER β D N e a) {xs : Array Operand} {ys : List Arg} (h : cAs xs.toList = some ys) : ∃ L : List Value, VRs β D (args ys e) L ∧ xs.map a.eval = L.toArray :=
  ⟨xs.toList.map a.eval, args_ok he h, by rw [← Array.toList_map]⟩
theorem cO_ok (he : ER β D N e a) {x : Option Operand} {y : Option Arg} (h : cO x = some y) : VO β D (argO y e) (x.map a.eval) := by
  cases x with
  | none => simp only [cO] at h; cases h; rfl
  | some x =>
    simp only [cO, Option.bind_eq_some_iff] at h
    obtain ⟨b, hb, h⟩ := h
    cases h
    exact ⟨_, rfl, arg_ok he hb⟩
theorem argO_none {x : Option Arg} : (argO x e).isNone = x.isNone ∧ (argO x e).isSome = x.isSome := by cases x <;> exact ⟨rfl, rfl⟩

theorem call_ok {F : Fns} (hF : FnOk P F) (hr : Rel β D B W s.h w) (he : ER β D N e a) {o : Oper} {c : Call} {f : Operand} (ho : o.op = .call c) (hf : c.callee = .value f) {af : Arg} {al : List Arg} (haf : cA f = some af) (hal : cAs c.args.toList = some al) {v : AV}
    (h : callF F (arg af e) (args al e) s = some (v, s')) (hfr : Fresh D s.n.num s'.n.num) {K : Act → World → Prop} {Q : Exit → Act → World → Prop} (hK : Goes β D B W s s' v fun V w' => K (a.put o.dst V) w') : o.wp P a w K Q := by
  have hfv := arg_ok he haf
  obtain ⟨L, hL, hLe⟩ := cAs_ok he hal
  cases hq : arg af e <;> rw [hq] at h hfv <;> first | (simp only [callF, M.no] at h; cases h; done) | skip
  rename_i fn first cap
  simp only [VR] at hfv
  obtain ⟨A, C, hev, hA, hC⟩ := hfv
  obtain ⟨h1, h2⟩ := hF fn _ s v s' h β D B W w (A ++ (L ++ C)) (hA.append (hL.append hC)) hr hfr
  have hargs : A.toArray ++ L.toArray ++ C.toArray = (A ++ (L ++ C)).toArray := by simp
  unfold Oper.wp
  have hex : (execOp a.eval o).run P w = .ok (.enter fn (A ++ (L ++ C)).toArray) w := by
    unfold execOp
    rw [ho]
    simp only [resolve, hf, hev, hLe, Deferred.ofValue, Sem.run_bind, Sem.run_pure, Result.andThen_ok, invoke]
    rw [hargs]
    exact h1
  rw [hex]
  exact h2.mono fun en w' ⟨β', D', V, hen, g1, g2, g3⟩ => by subst hen; exact hK β' D' w' V g1 g2 g3
end
end Ev
end Go.Proofs.YthknbcbkibbncaaGreat

/- DERIVED. Arrays of numbers are compared cell for cell. -/
set_option linter.unusedVariables false
namespace Go.Proofs.YthknbcbkibbncaaGreat
namespace Ev
open Go.RowKit
theorem keq_eq {k k' : IntKind} (h : keq k k' = true) : k = k' := by cases k <;> cases k' <;> first | rfl | (exact absurd h (by decide))
theorem ieq_beq (x y : Int) : ieq x y = (x == y) := by
  cases x <;> cases y <;> simp [ieq] <;> first | rfl | skip
  · rename_i a b
    by_cases h : a = b
    · subst h; simp
    · have : ¬ Nat.beq a b = true := fun e => h (Nat.eq_of_beq_eq_true e)
      simp [this]
      omega
  · rename_i a b
    by_cases h : a = b
    · subst h; simp
    · have : ¬ Nat.beq a b = true := fun e => h (Nat.eq_of_beq_eq_true e)
      simp [h, this]
theorem ceq_int {β : Id → CA} {D : Id → Prop} {x y : AV} {r : Bool} {X Y : Value} (h : ceq x y = some r) (hx : VR β D x X) (hy : VR β D y Y) : ∃ k a b, X = .int k a ∧ Y = .int k b ∧ r = (a == b) := by
  cases x <;> first | (simp only [ceq] at h; cases h; done) | skip
  cases y <;> first | (simp only [ceq] at h; cases h; done) | skip
  rename_i k a k' b
  simp only [ceq] at h
  cases hk : keq k k' with
  | false => rw [hk] at h; cases h
  | true =>
    rw [hk] at h
    cases h
    obtain rfl := keq_eq hk
    simp only [VR] at hx hy
    subst hx hy
    exact ⟨k, a, b, rfl, rfl, ieq_beq a b⟩
theorem items_eq {P : Program} {e : TypeId} {k0 : IntKind} (he : P.underlying e = some (.int k0)) {β : Id → CA} {D : Id → Prop} (w : World) (d : Nat) (A B : Array Value) :
    ∀ (xs ys : List AV) (X Y : List Value) (s : Nat) (r : Bool), (∀ j, A[s + j]? = X[j]?) → (∀ j, B[s + j]? = Y[j]?) → VRs β D xs X → VRs β D ys Y → ceqs xs ys = some r →
      (Op.eqItems (d + 1) e 1 A B (List.range' s xs.length)).run P w = .ok r w
  | [], [], X, Y, s, r, _, _, _, _, h => by
    simp only [ceqs] at h
    cases h
    simp [Op.eqItems]
  | [], _ :: _, X, Y, s, r, _, _, _, _, h => by simp [ceqs] at h
  | _ :: _, [], X, Y, s, r, _, _, _, _, h => by simp [ceqs] at h
  | x :: xs, y :: ys, X, Y, s, r, hA, hB, hX, hY, h => by
    simp only [VRs] at hX hY
    obtain ⟨X1, X', rfl, hX1, hX⟩ := hX
    obtain ⟨Y1, Y', rfl, hY1, hY⟩ := hY
    simp only [ceqs] at h
    cases h1 : ceq x y with
    | none => rw [h1] at h; cases h
    | some r1 =>
      rw [h1] at h
      dsimp only at h
      cases h2 : ceqs xs ys with
      | none => rw [h2] at h; cases h
      | some r2 =>
        rw [h2] at h
        cases h
        obtain ⟨k, a, b, rfl, rfl, rfl⟩ := ceq_int h1 hX1 hY1
        have hA0 := hA 0
        have hB0 := hB 0
        simp only [Nat.add_zero, List.getElem?_cons_zero] at hA0 hB0
        have pa : (part e A (s * 1)).run P w = .ok (.int k a) w := by
          simp [part, isAgg, Sem.run_bind, run_underlying he, hA0]
        have pb : (part e B (s * 1)).run P w = .ok (.int k b) w := by
          simp [part, isAgg, Sem.run_bind, run_underlying he, hB0]
        have hrest := items_eq he w d A B xs ys X' Y' (s + 1) r2 (fun j => by have := hA (j + 1); rw [show s + 1 + j = s + (j + 1) by omega]; simpa using this)
          (fun j => by have := hB (j + 1); rw [show s + 1 + j = s + (j + 1) by omega]; simpa using this) hX hY h2
        show (Op.eqItems (d + 1) e 1 A B (s :: List.range' (s + 1) xs.length)).run P w = _
        simp only [Op.eqItems, Sem.run_bind, pa, pb, Result.andThen_ok, run_equalIn_int w d e k k0 _ _ he]
        cases hab : (a == b)
        · simp [Sem.run_pure]
        · simpa using hrest
theorem array_eql {P : Program} {t e : TypeId} {n : Nat} {k0 : IntKind} {i : TypeInfo} (ht : P.underlying t = some (.array n e)) (he : P.underlying e = some (.int k0)) (hi : P.info? e = some i) (hs : P.cellsOf e = 1)
    (hq : P.eqGuardType P.depth t = false) {β : Id → CA} {D : Id → Prop} {xs ys : List AV} {X Y : List Value} {r : Bool} (hX : VRs β D xs X) (hY : VRs β D ys Y) (hn : xs.length = n) (hc : ceqs xs ys = some r)
    (x y : Operand) (w : World) {op : BinOp} {ng : Bool} (ho : op = .eql ∧ ng = false ∨ op = .neq ∧ ng = true) :
    (do eqGuard op t x y (.agg X.toArray) (.agg Y.toArray); binOp op t (.agg X.toArray) (.agg Y.toArray) : Sem Value).run P w = .ok (.bool (ng != r)) w := by
  have hE : (Op.equalIn 10000 t (.agg X.toArray) (.agg Y.toArray)).run P w = .ok r w := by
    rw [show (10000 : Nat) = 9998 + 1 + 1 from rfl, run_equalIn_array w 9999 _ _ ht hi, hs, List.range_eq_range', ← hn]
    exact items_eq he w 9998 _ _ xs ys X Y 0 r (fun j => by simp) (fun j => by simp) hX hY hc
  rcases ho with ⟨rfl, rfl⟩ | ⟨rfl, rfl⟩
  · rw [Sem.run_bind, run_eqGuard_agg w _ _ x y _ _ hq]
    simp only [Result.andThen_ok]
    rw [run_eql_struct, hE]
    simp
  · rw [Sem.run_bind, run_eqGuard_agg w _ _ x y _ _ hq]
    simp only [Result.andThen_ok]
    rw [run_neq_struct, hE]
    simp
end Ev
end Go.Proofs.YthknbcbkibbncaaGreat

/- DERIVED. Parts of values, maps: what the evaluator gives is what the model does. -/
namespace Go.Proofs.YthknbcbkibbncaaGreat
namespace Ev
open Go.RowKit
section
variable {P : Program} {Y : Ty} {β : Id → CA} {D : Id → Prop} {B N : Nat} {W w : World} {s s' u : S} {e : Env} {a : Act}

theorem part_ok (hY : TyOk P Y) {t : TypeId} {d : TypeDesc} {m : Nat} (ht : under Y t = some d) (hm : sizeT Y t = some m) {off : Nat} {x v : AV} {X : Value} (h : fldF off m (isAggD d) x s = some (v, s')) (hx : VR β D x X) :
    s' = s ∧ ∃ C V, X = .agg C ∧ VR β D v V ∧ ∀ w, (part t C off).run P w = .ok V w := by
  cases x <;> first | (simp only [fldF, M.no] at h; cases h; done) | skip
  rename_i xs
  simp only [VR] at hx
  obtain ⟨C, rfl, hC, hone⟩ := hx
  simp only [fldF] at h
  cases hb : Nat.ble (off + m) xs.length <;> rw [hb] at h <;> simp only at h
  · cases h
  have hle := Nat.le_of_ble_eq_true hb
  have hu := under_ok hY ht
  cases hd : isAggD d <;> rw [hd] at h <;> simp only at h
  · obtain ⟨y, hy, h⟩ := ofO_some h
    obtain ⟨rfl, rfl⟩ := pure_some h
    obtain ⟨V, hV, hv⟩ := hC.get off _ hy
    have hagg : ∀ w, (isAgg t).run P w = .ok false w := fun w => by
      unfold isAgg
      simp only [Sem.run_bind, run_underlying hu, Result.andThen_ok]
      cases d <;> simp_all [isAggD]
    refine ⟨rfl, C.toArray, V, rfl, hv, fun w => ?_⟩
    unfold part
    simp only [Sem.run_bind, hagg, Result.andThen_ok]
    simp [hV]
  · obtain ⟨rfl, rfl⟩ := pure_some h
    have hagg : ∀ w, (isAgg t).run P w = .ok true w := fun w => by
      unfold isAgg
      simp only [Sem.run_bind, run_underlying hu, Result.andThen_ok]
      cases d <;> simp_all [isAggD]
    have hsz : ∀ w, (sizeOf t).run P w = .ok m w := size_ok hY hm
    refine ⟨rfl, C.toArray, .agg (C.toArray.extract off (off + m)), rfl, ?_, fun w => ?_⟩
    · simp only [VR]
      refine ⟨(C.drop off).take m, ?_, (hC.drop off).take m, fun x hx => hone x (List.mem_of_mem_drop (List.mem_of_mem_take hx))⟩
      congr 1
      apply Array.ext'
      simp [List.take_drop]
    · unfold part
      simp only [Sem.run_bind, hagg, Result.andThen_ok, hsz, if_true, Sem.run_pure]
theorem fld_ok (hY : TyOk P Y) (hr : Rel β D B W s.h w) {t : TypeId} {fs : Array Field} {f : Field} {j m : Nat} {d : TypeDesc} (ht : under Y t = some (.struct fs)) (hj : fs.toList[j]? = some f) (hd : under Y f.type = some d) (hm : sizeT Y f.type = some m)
    {x v : AV} {X : Value} (h : fldF f.offset m (isAggD d) x s = some (v, s')) (hx : VR β D x X) : Gives P β D B W s s' v (Instr.field t X j) w := by
  obtain ⟨rfl, C, V, rfl, hv, hp⟩ := part_ok hY hd hm h hx
  have hj' : fs[j]? = some f := by simpa using hj
  exact Gives.same hr hv (by simp [Instr.field, Sem.run_bind, run_underlying (under_ok hY ht), hj', asAgg, hp])
theorem idx_ok (hY : TyOk P Y) (hr : Rel β D B W s.h w) {t el : TypeId} {n z : Nat} {d : TypeDesc} (ht : under Y t = some (.array n el)) (hd : under Y el = some d) (hz : sizeT Y el = some z)
    {x i v : AV} {X I : Value} (h : idxF n z (isAggD d) x i s = some (v, s')) (hx : VR β D x X) (hi : VR β D i I) : Gives P β D B W s s' v (Instr.index t X I) w := by
  obtain ⟨q, hq, h⟩ := ofO_some h
  obtain ⟨hlt, h⟩ := ifB_some h
  obtain ⟨k, rfl⟩ := natOf_ok hq hi
  obtain ⟨rfl, C, V, rfl, hv, hp⟩ := part_ok hY hd hz h hx
  have hlt' : q < n := Nat.le_of_ble_eq_true hlt
  have hsz := size_ok hY hz (P := P)
  exact Gives.same hr hv (by simp [Instr.index, Sem.run_bind, asIntOf, run_underlying (under_ok hY ht), hlt', hsz, hp])
theorem sap_ok (hY : TyOk P Y) (hr : Rel β D B W s.h w) {t el : TypeId} {n : Nat} (ht : under Y t = some (.array n el)) {x v : AV} {X : Value} (h : sapF n x s = some (v, s')) (hx : VR β D x X) : Gives P β D B W s s' v (Instr.arrayAt t X) w := by
  cases x <;> first | (simp only [sapF, M.no] at h; cases h; done) | skip
  · rename_i id off len cap
    obtain ⟨hb, h⟩ := ifB_some h
    obtain ⟨rfl, rfl⟩ := pure_some h
    rw [Bool.and_eq_true] at hb
    have h1 : n ≤ len := Nat.le_of_ble_eq_true hb.1
    simp only [VR] at hx
    obtain ⟨hd, rfl⟩ := hx
    refine Gives.same hr (V := .pointer (some ⟨(β id).blk, (β id).base + off, none⟩)) (by simp only [VR]; first | exact ⟨hd, rfl⟩ | exact ⟨hd, trivial⟩) ?_
    have h2 : ¬ len < n := by omega
    simp [Instr.arrayAt, Sem.run_bind, run_underlying (under_ok hY ht), h2]
  · rename_i id off len k w'
    obtain ⟨hb, h⟩ := ifB_some h
    obtain ⟨rfl, rfl⟩ := pure_some h
    rw [Bool.and_eq_true] at hb
    have h1 : n ≤ len := Nat.le_of_ble_eq_true hb.1
    have h3 : 1 ≤ n := Nat.le_of_ble_eq_true hb.2
    simp only [VR] at hx
    obtain ⟨hd, hlk, q, cap, rfl, hkc, hq, hlim⟩ := hx
    obtain rfl : q = (β id).base + off := hq.resolve_left (by omega)
    refine Gives.same hr (V := .pointer (some ⟨(β id).blk, (β id).base + off, none⟩)) (by simp only [VR]; first | exact ⟨hd, rfl⟩ | exact ⟨hd, trivial⟩) ?_
    have h2 : ¬ len < n := by omega
    simp [Instr.arrayAt, Sem.run_bind, run_underlying (under_ok hY ht), h2]
theorem ixt_ok (hY : TyOk P Y) (hr : Rel β D B W s.h w) {t : TypeId} (ht : under Y t = some .string) {x i v : AV} {X I : Value} (h : ixtF x i s = some (v, s')) (hx : VR β D x X) (hi : VR β D i I) : Gives P β D B W s s' v (Instr.index t X I) w := by
  have h0 := ofO_some h
  clear h
  obtain ⟨q, hq, h⟩ := h0
  cases x <;> first | (simp only [M.no] at h; cases h; done) | skip
  rename_i b
  have h0 := ofO_some h
  clear h
  obtain ⟨c, hc, h⟩ := h0
  obtain ⟨rfl, rfl⟩ := pure_some h
  obtain ⟨k, rfl⟩ := natOf_ok hq hi
  simp only [VR] at hx
  obtain ⟨rfl, hb⟩ := hx
  have hlt : q < b.length := (List.getElem?_eq_some_iff.1 hc).1
  have hc256 := hb c (List.mem_of_getElem? hc)
  have hS : (⟨(b.map UInt8.ofNat).toArray⟩ : ByteArray)[q]? = some (UInt8.ofNat c) := by
    have h1 : q < (⟨(b.map UInt8.ofNat).toArray⟩ : ByteArray).size := by show q < (b.map UInt8.ofNat).toArray.size; simpa using hlt
    rw [getElem?_pos (⟨(b.map UInt8.ofNat).toArray⟩ : ByteArray) q h1]
    congr 1
    show (b.map UInt8.ofNat).toArray[q]'_ = _
    have h2 := (List.getElem?_eq_some_iff.1 hc).2
    simp [h2]
  refine Gives.same hr (V := .int .u8 c) (by simp only [VR]; rfl) ?_
  have h3 : (UInt8.ofNat c).toNat = c := by simp; omega
  simp [Instr.index, Sem.run_bind, asIntOf, run_underlying (under_ok hY ht), hS]
  omega
end
end Ev
end Go.Proofs.YthknbcbkibbncaaGreat

/- DERIVED. Maps: what the evaluator gives is what the model does. -/
namespace Go.Proofs.YthknbcbkibbncaaGreat
namespace Ev
open Go.RowKit
def mflat (es : List MapEntry) : List Value := es.flatMap fun e => [e.key, e.val, .int .i64 e.born]
theorem mflat_cons (e : MapEntry) (es : List MapEntry) : mflat (e :: es) = e.key :: e.val :: .int .i64 e.born :: mflat es := by simp [mflat]
theorem mflat_length : ∀ es : List MapEntry, (mflat es).length = es.length * 3
  | [] => rfl
  | e :: es => by rw [mflat_cons]; simp [mflat_length es]; omega
theorem mflat_append (a b : List MapEntry) : mflat (a ++ b) = mflat a ++ mflat b := by simp [mflat]
theorem mflat_take : ∀ (es : List MapEntry) (i : Nat), (mflat es).take (i * 3) = mflat (es.take i)
  | [], i => by simp [mflat]
  | e :: es, 0 => by simp [mflat]
  | e :: es, i + 1 => by
    rw [mflat_cons, List.take_succ_cons, mflat_cons, show (i + 1) * 3 = i * 3 + 1 + 1 + 1 by omega]
    simp [mflat_take es i]
theorem mflat_drop : ∀ (es : List MapEntry) (i : Nat), (mflat es).drop (i * 3) = mflat (es.drop i)
  | [], i => by simp [mflat]
  | e :: es, 0 => by simp
  | e :: es, i + 1 => by
    rw [mflat_cons, List.drop_succ_cons, show (i + 1) * 3 = i * 3 + 1 + 1 + 1 by omega]
    simp [mflat_drop es i]
section
variable {β : Id → CA} {D : Id → Prop}
theorem VRs.uncons {l : List AV} {V : Value} {Vs : List Value} (h : VRs β D l (V :: Vs)) : ∃ x xs, l = x :: xs ∧ VR β D x V ∧ VRs β D xs Vs := by
  cases l with
  | nil => simp [VRs] at h
  | cons x xs =>
    simp only [VRs] at h
    obtain ⟨U, Us, e, h1, h2⟩ := h
    cases e
    exact ⟨x, xs, rfl, h1, h2⟩
theorem mapL_ok {es : List MapEntry} {clock : Nat} {l : List AV} (h : MapR β D es clock l) {nl : Nat × List AV} (hm : mapL l = some nl) : nl.1 = clock ∧ VRs β D nl.2 (mflat es) := by
  unfold MapR at h
  obtain ⟨c, l, rfl, h1, h2⟩ := h.uncons
  simp only [mapL] at hm
  cases c <;> first | (cases hm; done) | skip
  rename_i k x
  cases x <;> cases hm
  simp only [VR, Value.int.injEq, Int.ofNat_eq_natCast] at h1
  refine ⟨?_, h2⟩
  have := h1.2
  simp only
  omega
theorem clk_ok {es : List MapEntry} {clock : Nat} {l : List AV} (h : VRs β D l (mflat es)) : MapR β D es clock (clk clock l) := by
  unfold MapR clk
  exact VRs.cons (by simp only [VR]; rfl) h
theorem findM_spec {k : AV} : ∀ (es : List MapEntry) (l : List AV) (i : Nat) (r : Option Ent), VRs β D l (mflat es) → findM k l i = some r →
    (r = none ∧ ∀ en ∈ es, ∃ x, VR β D x en.key ∧ keyEq k x = some false) ∨
    ∃ j en x en0, r = some en0 ∧ en0.i = i + j ∧ es[j]? = some en ∧ VR β D en0.v en.val ∧ VR β D en0.b (.int .i64 en.born) ∧ VR β D x en.key ∧ keyEq k x = some true ∧ ∀ q ∈ es.take j, ∃ x, VR β D x q.key ∧ keyEq k x = some false
  | [], l, i, r, hl, h => by
    simp only [mflat, List.flatMap_nil] at hl
    obtain rfl : l = [] := by
      cases l with
      | nil => rfl
      | cons x xs => simp [VRs] at hl
    simp only [findM] at h
    cases h
    exact .inl ⟨rfl, by simp⟩
  | en :: es, l, i, r, hl, h => by
    rw [mflat_cons] at hl
    obtain ⟨a, l, rfl, ha, hl⟩ := hl.uncons
    obtain ⟨v, l, rfl, hv, hl⟩ := hl.uncons
    obtain ⟨b, l, rfl, hb, hl⟩ := hl.uncons
    unfold findM at h
    simp only at h
    split at h
    · cases h
    · rename_i he
      cases h
      exact .inr ⟨0, en, a, _, rfl, rfl, by simp, hv, hb, ha, he, by simp⟩
    · rename_i he
      rcases findM_spec es l (i + 1) r hl h with ⟨h1, h2⟩ | ⟨j, en', x, e0, h1, h2, h3, h4, h5, h6, h7, h8⟩
      · refine .inl ⟨h1, fun q hq => ?_⟩
        rcases List.mem_cons.1 hq with rfl | hq
        · exact ⟨a, ha, he⟩
        · exact h2 q hq
      · refine .inr ⟨j + 1, en', x, e0, h1, by omega, by simpa using h3, h4, h5, h6, h7, fun q hq => ?_⟩
        rw [List.take_succ_cons] at hq
        rcases List.mem_cons.1 hq with rfl | hq
        · exact ⟨a, ha, he⟩
        · exact h8 q hq
inductive KeyK (P : Program) (kt : TypeId) : Option Nat → Prop where
  | int (k : IntKind) (h : P.underlying kt = some (.int k)) : KeyK P kt none
  | str (h : P.underlying kt = some .string) : KeyK P kt (some 0)
  | arr (n : Nat) (el : TypeId) (k : IntKind) (i : TypeInfo) (h : P.underlying kt = some (.array (n + 1) el)) (he : P.underlying el = some (.int k)) (hi : P.info? el = some i) (hs : i.size = 1) : KeyK P kt (some (n + 1))
theorem keyD_ok {P : Program} {Y : Ty} (hY : TyOk P Y) {kt : TypeId} {q : Option Nat} (h : keyD Y kt = some q) : KeyK P kt q := by
  unfold keyD at h
  rw [Option.bind_eq_some_iff] at h
  obtain ⟨d, hd, h⟩ := h
  have hu := under_ok hY hd
  cases d <;> simp only at h <;> try (cases h; done)
  · cases h; exact .int _ hu
  · cases h; exact .str hu
  · rename_i n el
    cases n with
    | zero => cases h
    | succ m =>
      simp only [Option.bind_eq_some_iff] at h
      obtain ⟨ed, hed, _, hi, z, hz, _, hz1, h⟩ := h
      cases h
      have hue := under_ok hY hed
      unfold sizeT at hz
      rw [Option.bind_eq_some_iff] at hz
      obtain ⟨i, hi', hz⟩ := hz
      cases hz
      cases ed <;> simp [isIntD, guardB] at hi
      refine .arr m el _ i hu hue (hY.t el i hi') ?_
      cases hb : Nat.beq i.size 1 <;> rw [hb] at hz1 <;> simp [guardB] at hz1
      exact Nat.eq_of_beq_eq_true hb
theorem ceqs_eq : ∀ {xs ys : List AV} {X Y : List Value}, VRs β D xs X → VRs β D ys Y → ceqs xs ys = some true → Y = X
  | [], [], X, Y, hX, hY, _ => by simp only [VRs] at hX hY; rw [hX, hY]
  | [], _ :: _, _, _, _, _, h => by simp [ceqs] at h
  | _ :: _, [], _, _, _, _, h => by simp [ceqs] at h
  | x :: xs, y :: ys, X, Y, hX, hY, h => by
    simp only [VRs] at hX hY
    obtain ⟨X1, X', rfl, hX1, hX⟩ := hX
    obtain ⟨Y1, Y', rfl, hY1, hY⟩ := hY
    simp only [ceqs] at h
    cases h1 : ceq x y with
    | none => rw [h1] at h; cases h
    | some r1 =>
      rw [h1] at h
      dsimp only at h
      cases h2 : ceqs xs ys with
      | none => rw [h2] at h; cases h
      | some r2 =>
        rw [h2] at h
        simp only [Option.some.injEq, Bool.and_eq_true] at h
        obtain ⟨rfl, rfl⟩ := h
        obtain ⟨k, a, b, rfl, rfl, e⟩ := ceq_int h1 hX1 hY1
        rw [ceqs_eq hX hY h2]
        have : a = b := by simpa using e.symm
        rw [this]

section
variable {P : Program} {kt : TypeId} {q : Option Nat} {k x : AV} {K X : Value} {r : Bool}
theorem keyEq_true (hk : keyOk q k = true) (hK : VR β D k K) (hX : VR β D x X) (h : keyEq k x = some true) : X = K := by
  unfold keyOk at hk
  split at hk
  · split at hk
    · simp only [keyEq] at h
      obtain ⟨kd, a, b, rfl, rfl, e⟩ := ceq_int h hK hX
      have : a = b := by simpa using e.symm
      rw [this]
    · cases hk
  · split at hk
    · split at hk
      · cases x <;> simp only [keyEq] at h <;> first | (cases h; done) | skip
        simp only [Option.some.injEq] at h
        rw [eqL_ok] at h
        have := of_decide_eq_true h
        subst this
        simp only [VR] at hK hX
        rw [hK.1, hX.1]
      · cases hk
    · split at hk
      · cases x <;> simp only [keyEq] at h <;> first | (cases h; done) | skip
        simp only [VR] at hK hX
        obtain ⟨A, rfl, hA, _⟩ := hK
        obtain ⟨B, rfl, hB, _⟩ := hX
        rw [ceqs_eq hA hB h]
      · cases hk
theorem sameBits_key (hq : keyOk q k = true) (hK : VR β D k K) (hX : VR β D x X) (hself : keyEq k x = some true) : Instr.sameBits 10000 K K = true := by
  unfold keyOk at hq
  split at hq
  · split at hq
    · simp only [VR] at hK; subst hK; simp [Instr.sameBits]
    · cases hq
  · split at hq
    · split at hq
      · simp only [VR] at hK; obtain ⟨rfl, _⟩ := hK
        simp only [Instr.sameBits]
        exact (MapKept.bytes_beq _ _).2 rfl
      · cases hq
    · split at hq
      · rename_i xs
        cases x <;> simp only [keyEq] at hself <;> first | (cases hself; done) | skip
        rename_i ys
        simp only [VR] at hK hX
        obtain ⟨C, rfl, hC, _⟩ := hK
        obtain ⟨E, rfl, hE, _⟩ := hX
        have key : ∀ (xs ys : List AV) (C E : List Value), VRs β D xs C → VRs β D ys E → ceqs xs ys = some true → ∀ p ∈ C.zip C, Instr.sameBits 9999 p.1 p.2 = true := by
          intro xs
          induction xs with
          | nil => intro ys C E hC _ _; simp only [VRs] at hC; subst hC; simp
          | cons x xs ih =>
            intro ys C E hC hE h
            cases ys with
            | nil => simp [ceqs] at h
            | cons y ys =>
              simp only [VRs] at hC hE
              obtain ⟨V, Vs, rfl, hV, hC⟩ := hC
              obtain ⟨U, Us, rfl, hU, hE⟩ := hE
              simp only [ceqs] at h
              cases h1 : ceq x y with
              | none => rw [h1] at h; cases h
              | some r1 =>
                rw [h1] at h
                dsimp only at h
                cases h2 : ceqs xs ys with
                | none => rw [h2] at h; cases h
                | some r2 =>
                  rw [h2] at h
                  simp only [Option.some.injEq, Bool.and_eq_true] at h
                  obtain ⟨rfl, rfl⟩ := h
                  obtain ⟨kd, a, b, e1, e2, _⟩ := ceq_int h1 hV hU
                  intro p hp
                  rw [List.zip_cons_cons] at hp
                  rcases List.mem_cons.1 hp with rfl | hp
                  · subst e1; simp [Instr.sameBits]
                  · exact ih ys Vs Us hC hE h2 p hp
        have := key xs ys C E hC hE hself
        simp only [Instr.sameBits, beq_self_eq_true, Bool.true_and, List.all_eq_true]
        intro p hp
        exact this p hp
      · cases hq
theorem same_now {d : TypeDesc} (hd : (∃ kd, d = .int kd ∧ q = none) ∨ (d = .string ∧ q = some 0)) (hk : keyOk q k = true) (hK : VR β D k K) (hX : VR β D x X) (h : keyEq k x = some r) : Instr.sameNow d K X = some r := by
  rcases hd with ⟨kd, rfl, rfl⟩ | ⟨rfl, rfl⟩
  · unfold keyOk at hk
    simp only at hk
    split at hk
    · simp only [keyEq] at h
      obtain ⟨kd, a, b, rfl, rfl, e⟩ := ceq_int h hK hX
      subst e
      simp [Instr.sameNow]
    · cases hk
  · unfold keyOk at hk
    simp only at hk
    split at hk
    · cases x <;> simp only [keyEq] at h <;> first | (cases h; done) | skip
      simp only [Option.some.injEq] at h
      simp only [VR] at hK hX
      obtain ⟨rfl, h1⟩ := hK
      obtain ⟨rfl, h2⟩ := hX
      simp only [Instr.sameNow, Option.some.injEq]
      rw [← h]
      rw [eqL_ok, Bool.eq_iff_iff]
      simp only [beq_iff_eq, decide_eq_true_eq]
      constructor
      · intro e
        have e' : (⟨(List.map UInt8.ofNat _).toArray⟩ : ByteArray) = ⟨(List.map UInt8.ofNat _).toArray⟩ := (MapKept.bytes_beq _ _).1 e
        simp only [ByteArray.mk.injEq] at e'
        exact bytes_inj h1 h2 (by simpa using congrArg Array.toList e')
      · intro e
        subst e
        exact (MapKept.bytes_beq _ _).2 rfl
    · cases hk
theorem same_arr {n : Nat} {el : TypeId} {kd : IntKind} {i : TypeInfo} (hu : P.underlying kt = some (.array (n + 1) el)) (he : P.underlying el = some (.int kd)) (hi : P.info? el = some i) (hs : i.size = 1)
    (hk : keyOk (some (n + 1)) k = true) (hK : VR β D k K) (hX : VR β D x X) (h : keyEq k x = some r) (w : World) : (Op.equal kt K X).run P w = .ok r w := by
  unfold keyOk at hk
  simp only at hk
  split at hk
  · rename_i xs
    cases x <;> simp only [keyEq] at h <;> first | (cases h; done) | skip
    rename_i ys
    simp only [VR] at hK hX
    obtain ⟨A, rfl, hA, _⟩ := hK
    obtain ⟨B, rfl, hB, _⟩ := hX
    have hn : xs.length = n + 1 := Nat.eq_of_beq_eq_true hk
    have hc : P.cellsOf el = 1 := by simp [Program.cellsOf, hi, hs]
    show (Op.equalIn 10000 kt _ _).run P w = _
    rw [show (10000 : Nat) = 9998 + 1 + 1 from rfl, run_equalIn_array w 9999 _ _ hu hi, hc, List.range_eq_range', ← hn]
    exact items_eq he w 9998 _ _ xs ys A B 0 r (fun j => by simp) (fun j => by simp) hA hB h
  · cases hk
theorem findNow_none {d : TypeDesc} : ∀ (es : List MapEntry) (i : Nat), (∀ en ∈ es, Instr.sameNow d K en.key = some false) → Instr.findNow d K es i = some none
  | [], _, _ => rfl
  | e :: es, i, h => by simp [Instr.findNow, h e (by simp), findNow_none es (i + 1) (fun q hq => h q (by simp [hq]))]
theorem findNow_at {d : TypeDesc} : ∀ (es : List MapEntry) (i j : Nat) (en : MapEntry), es[j]? = some en → Instr.sameNow d K en.key = some true → (∀ q ∈ es.take j, Instr.sameNow d K q.key = some false) → Instr.findNow d K es i = some (some (i + j, en.val))
  | [], _, _, _, h, _, _ => by simp at h
  | e :: es, i, 0, en, h, h1, _ => by simp at h; subst h; simp [Instr.findNow, h1]
  | e :: es, i, j + 1, en, h, h1, h2 => by
    rw [List.take_succ_cons] at h2
    simp only [Instr.findNow, h2 e (by simp), findNow_at es (i + 1) j en (by simpa using h) h1 (fun q hq => h2 q (by simp [hq]))]
    simp; omega
theorem findAsk_none (w : World) : ∀ (es : List MapEntry) (i : Nat), (∀ en ∈ es, (Op.equal kt K en.key).run P w = .ok false w) → (Instr.findAsking kt K es i).run P w = .ok none w
  | [], _, _ => by simp [Instr.findAsking]
  | e :: es, i, h => by simp [Instr.findAsking, h e (by simp), findAsk_none w es (i + 1) (fun q hq => h q (by simp [hq]))]
theorem findAsk_at (w : World) : ∀ (es : List MapEntry) (i j : Nat) (en : MapEntry), es[j]? = some en → (Op.equal kt K en.key).run P w = .ok true w → (∀ q ∈ es.take j, (Op.equal kt K q.key).run P w = .ok false w) → (Instr.findAsking kt K es i).run P w = .ok (some (i + j, en.val)) w
  | [], _, _, _, h, _, _ => by simp at h
  | e :: es, i, 0, en, h, h1, _ => by simp at h; subst h; simp [Instr.findAsking, h1]
  | e :: es, i, j + 1, en, h, h1, h2 => by
    rw [List.take_succ_cons] at h2
    simp [Instr.findAsking, h2 e (by simp), findAsk_at w es (i + 1) j en (by simpa using h) h1 (fun q hq => h2 q (by simp [hq]))]
    omega
inductive Hit (β : Id → CA) (D : Id → Prop) (K : Value) (es : List MapEntry) : Option Ent → Option (Nat × Value) → Prop where
  | no : Hit β D K es none none
  | yes (e : Ent) (en : MapEntry) (h : es[e.i]? = some en) (hv : VR β D e.v en.val) (hb : VR β D e.b (.int .i64 en.born)) (hk : en.key = K) (hs : Instr.sameBits 10000 K K = true) : Hit β D K es (some e) (some (e.i, en.val))
theorem findKey_ok (hq : KeyK P kt q) (hk : keyOk q k = true) (hK : VR β D k K) {es : List MapEntry} {l : List AV} {r : Option Ent} (hl : VRs β D l (mflat es)) (h : findM k l 0 = some r) (w : World) :
    ∃ R, (Instr.findKey kt K es).run P w = .ok R w ∧ Hit β D K es r R := by
  have hs := findM_spec es l 0 r hl h
  cases hq with
  | int kd hu =>
    rcases hs with ⟨rfl, h2⟩ | ⟨j, en, x, e0, rfl, h2, h3, h4, h5, h6, h7, h8⟩
    · exact ⟨none, MapKept.run_findKey hu (findNow_none es 0 fun en hen => by
        obtain ⟨x, hx, hf⟩ := h2 en hen
        exact same_now (.inl ⟨kd, rfl, rfl⟩) hk hK hx hf), .no⟩
    · obtain rfl : e0.i = j := by omega
      refine ⟨some (e0.i, en.val), MapKept.run_findKey hu ?_, .yes e0 en h3 h4 h5 (keyEq_true hk hK h6 h7) (sameBits_key hk hK h6 h7)⟩
      have := findNow_at (d := .int kd) (K := K) es 0 e0.i en h3 (same_now (.inl ⟨kd, rfl, rfl⟩) hk hK h6 h7) (fun q hq => by
        obtain ⟨x, hx, hf⟩ := h8 q hq
        exact same_now (.inl ⟨kd, rfl, rfl⟩) hk hK hx hf)
      simpa using this
  | str hu =>
    rcases hs with ⟨rfl, h2⟩ | ⟨j, en, x, e0, rfl, h2, h3, h4, h5, h6, h7, h8⟩
    · exact ⟨none, MapKept.run_findKey hu (findNow_none es 0 fun en hen => by
        obtain ⟨x, hx, hf⟩ := h2 en hen
        exact same_now (.inr ⟨rfl, rfl⟩) hk hK hx hf), .no⟩
    · obtain rfl : e0.i = j := by omega
      refine ⟨some (e0.i, en.val), MapKept.run_findKey hu ?_, .yes e0 en h3 h4 h5 (keyEq_true hk hK h6 h7) (sameBits_key hk hK h6 h7)⟩
      have := findNow_at (d := .string) (K := K) es 0 e0.i en h3 (same_now (.inr ⟨rfl, rfl⟩) hk hK h6 h7) (fun q hq => by
        obtain ⟨x, hx, hf⟩ := h8 q hq
        exact same_now (.inr ⟨rfl, rfl⟩) hk hK hx hf)
      simpa using this
  | arr n el kd i hu he hi hs1 =>
    have hask : ∀ R, (Instr.findAsking kt K es 0).run P w = .ok R w → (es = [] → R = none) → (Instr.findKey kt K es).run P w = .ok R w := fun R hR h0 => by
      cases es with
      | nil => simp [Instr.findKey, run_underlying hu, Instr.findNow, h0 rfl]
      | cons e es => simp [Instr.findKey, run_underlying hu, Instr.findNow, Instr.sameNow, hR]
    rcases hs with ⟨rfl, h2⟩ | ⟨j, en, x, e0, rfl, h2, h3, h4, h5, h6, h7, h8⟩
    · exact ⟨none, hask none (findAsk_none w es 0 fun en hen => by
        obtain ⟨x, hx, hf⟩ := h2 en hen
        exact same_arr hu he hi hs1 hk hK hx hf w) (fun _ => rfl), .no⟩
    · obtain rfl : e0.i = j := by omega
      refine ⟨some (e0.i, en.val), hask _ ?_ (fun e => by subst e; simp at h3), .yes e0 en h3 h4 h5 (keyEq_true hk hK h6 h7) (sameBits_key hk hK h6 h7)⟩
      have := findAsk_at (P := P) (kt := kt) (K := K) w es 0 e0.i en h3 (same_arr hu he hi hs1 hk hK h6 h7 w) (fun q hq => by
        obtain ⟨x, hx, hf⟩ := h8 q hq
        exact same_arr hu he hi hs1 hk hK hx hf w)
      simpa using this
theorem checkKey_ok (hq : KeyK P kt q) (hk : keyOk q k = true) (hK : VR β D k K) (em : Bool) (w : World) : (Instr.checkKey em 10000 kt K).run P w = .ok () w := by
  rw [show (10000 : Nat) = 9998 + 1 + 1 from rfl]
  cases hq with
  | int kd hu =>
    unfold Instr.checkKey
    simp [run_underlying hu]
  | str hu =>
    unfold Instr.checkKey
    simp [run_underlying hu]
  | arr n el kd i hu he hi hs1 =>
    unfold keyOk at hk
    simp only at hk
    split at hk
    · rename_i xs
      simp only [VR] at hK
      obtain ⟨A, rfl, hA, _⟩ := hK
      have hn : xs.length = n + 1 := Nat.eq_of_beq_eq_true hk
      have hlen := hA.length
      unfold Instr.checkKey
      simp only [Sem.run_bind, run_underlying hu, Result.andThen_ok]
      simp only [Std.Legacy.Range.forIn_eq_forIn_range', Std.Legacy.Range.size, Nat.sub_zero, Nat.add_one_sub_one, Nat.div_one]
      have key : ∀ m s, s + m ≤ A.length → (forIn (List.range' s m) PUnit.unit fun i (_ : PUnit) => do
          Instr.checkKey em (9998 + 1) el (← part el A.toArray (i * (← sizeOf el)))
          pure (ForInStep.yield PUnit.unit) : Sem PUnit).run P w = .ok () w := by
        intro m
        induction m with
        | zero => intro s _; simp
        | succ m ih =>
          intro s hs
          obtain ⟨V, hV⟩ : ∃ V, A[s]? = some V := ⟨A[s]'(by omega), by simp⟩
          have h1 : (sizeOf el).run P w = .ok 1 w := by simp [run_sizeOf w hi, Program.cellsOf, hi, hs1]
          have h2 : (part el A.toArray (s * 1)).run P w = .ok V w := by simp [part, isAgg, Sem.run_bind, run_underlying he, hV]
          have h3 : (Instr.checkKey em (9998 + 1) el V).run P w = .ok () w := by
            unfold Instr.checkKey
            simp [run_underlying he]
          rw [List.range'_succ, List.forIn_cons]
          simp only [Sem.run_bind, h1, h2, h3, Result.andThen_ok, Sem.run_pure]
          exact ih (s + 1) (by omega)
      have := key (n + 1) 0 (by omega)
      rw [show (forIn (List.range' 0 (n + 1)) PUnit.unit fun i (_ : PUnit) => do
          Instr.checkKey em 9999 el (← part el A.toArray (i * (← sizeOf el)))
          pure (ForInStep.yield PUnit.unit) : Sem PUnit).run P w = .ok () w from this]
      simp
    · cases hk
end
end
end Ev
end Go.Proofs.YthknbcbkibbncaaGreat
