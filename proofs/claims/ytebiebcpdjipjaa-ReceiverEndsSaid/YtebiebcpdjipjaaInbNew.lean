/- DERIVED. Walk of inbuf's New. -/
import Derived.Test.YtebiebcpdjipjaaInbSt
namespace Go.Proofs.Ytebiebcpdjipjaa
open Go.RowKit

noncomputable def hasLen : List Value → Nat → Bool := List.rec (fun n => match n with | 0 => true | _ + 1 => false) (fun _ _ ih n => match n with | 0 => false | m + 1 => ih m)
theorem hasLen_eq : ∀ (l : List Value) (n : Nat), hasLen l n = true → l.length = n
  | [], 0, _ => rfl
  | [], n + 1, h => by cases h
  | a :: l, 0, h => by cases h
  | a :: l, n + 1, h => by
    have := hasLen_eq l n h
    simp [this]
theorem infoBuf : (Try.prog.info? 84).map (fun i => match i.zero with | some (.agg cs) => (hasLen cs.toList 2053, cs.toList.take 4) | _ => (false, [])) = some (true, [.int .u64 0, .int .u64 0, .int .u64 0, .bool false]) := by kernel_rfl
theorem zeroBuf : ∃ Z : Array Value, (∀ w : World, (zeroValue 84).run Try.prog w = .ok (.agg Z) w) ∧ Z.size = 2053 ∧ Z.toList.take 4 = [.int .u64 0, .int .u64 0, .int .u64 0, .bool false] := by
  have h := infoBuf
  cases hi : Try.prog.info? 84 with
  | none => rw [hi] at h; cases h
  | some i =>
    rw [hi] at h
    simp only [Option.map_some, Option.some.injEq] at h
    split at h
    · rename_i cs hc
      obtain ⟨h1, h2⟩ := Prod.mk.injEq .. ▸ h
      exact ⟨cs, fun w => by simp [zeroValue, typeInfo, hi, hc], by simpa using hasLen_eq _ _ h1, h2⟩
    · cases h

set_option maxRecDepth 100000 in
set_option maxHeartbeats 400000 in
theorem bnew_any (w : World) : Calls Try.prog 21 #[] w fun e w' => ∃ b fp, e = .returned (.pointer (some ⟨b, 0, none⟩)) ∧ IbAt w' b IB.zero fp ∧ (∀ k, fp k → w.heap.size ≤ k) ∧ Below w.heap.size w w' := by
  obtain ⟨Z, hZ, hsz, hZ2⟩ := zeroBuf
  have HZ := Lib.hid hZ2
  clear hZ2
  go_enter Try.func21, Try.ntmps21
  go_wp2_with fail
  refine (snew_any 2048 _).mono ?_
  rintro e w1 ⟨c, rfl, hb1, hs, hb⟩
  rw [show mostOf 2048 = 2048 from rfl] at hs
  have HS := Lib.hid hs
  have HB := Lib.hid hb
  clear hs hb
  go_wp2_with fail
  go_ret
  have e : ∀ i, i < 4 → (Z.setIfInBounds 2052 (.pointer (some ⟨c, 0, none⟩)))[i]? = ([.int .u64 0, .int .u64 0, .int .u64 0, .bool false] : List Value)[i]? := by
    intro i hi
    rw [Array.getElem?_setIfInBounds, if_neg (by omega), ← HZ.out, List.getElem?_take_of_lt hi]
    simp
  have hne : c < w1.heap.size := by
    obtain ⟨v, h1, _⟩ := HS.out
    exact heap_lt h1
  refine ⟨w1.heap.size, fun j => j = w1.heap.size ∨ j = c ∨ (none : Option Nat) = some j, rfl, ⟨c, none, [], _, ⟨alloc_at _ _, by simpa using hsz, e 0 (by omega), e 1 (by omega), e 2 (by omega), e 3 (by omega), ?_, ?_, ?_, CameIs.zero, IB.zero_ok, by omega, by simp⟩, rfl⟩, ?_, ?_⟩
  · intro j v hv
    simp [IB.zero, gt] at hv
  · rw [Array.getElem?_setIfInBounds, if_pos rfl]
    simp [hsz]
  · exact HS.out.below ((Below.refl _ _).alloc (Nat.le_refl _) _)
  · have := HB.out.size
    rintro k (rfl | rfl | h)
    · exact this
    · exact hb1
    · cases h
  · exact HB.out.alloc HB.out.size _
end Go.Proofs.Ytebiebcpdjipjaa
