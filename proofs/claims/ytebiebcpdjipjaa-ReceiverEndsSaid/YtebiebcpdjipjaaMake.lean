/- DERIVED. A slice of bytes that is made. -/
import Derived.Test.YtebiebcpdjipjaaInfoB
namespace Go.Proofs.Ytebiebcpdjipjaa
open Go.RowKit

theorem make_bytes (n : Nat) (h : n ≤ 1000) : ∃ Z : Array Value, (∀ w : World, (Instr.makeSlice 22 (.int .i64 (n : Int)) (.int .i64 (n : Int))).run Try.prog w = .ok (.slice (some ⟨w.heap.size, 0, none⟩) n n) (w.alloc (.cells Z 5))) ∧ Z.toList = flat encB (List.replicate n 0) := by
  obtain ⟨i0, hi0, hz0, hz1, hz2'⟩ := info_parts infoB
  refine ⟨madeCells (Value.int .u8 0).cells n, fun w => ?_, ?_⟩
  · have := run_make (P := Try.prog) w 22 5 i0 _ Try.underlying22 hi0 hz0 .i64 .i64 n n (by omega) (by omega) (by rw [hz2']; omega) (by omega)
    rw [this, hz1]
    simp
  · show (madeCells #[Value.int .u8 0] n).toList = _
    rw [toList_madeCells_one, flatB, List.map_replicate]
    rfl
end Go.Proofs.Ytebiebcpdjipjaa
