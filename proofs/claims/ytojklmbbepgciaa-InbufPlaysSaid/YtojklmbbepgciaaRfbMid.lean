/- DERIVED. The document's buffer in the middle of Add. -/
import Derived.Test.YtojklmbbepgciaaRfbRd
namespace Go.Proofs.Ytojklmbbepgciaa
open Go.RowKit

theorem bytesOf_more (L : List (Option Nat)) : bytesOf (L ++ [none]) = bytesOf L ++ [0] := by simp [bytesOf]
theorem isSome_more (L : List (Option Nat)) : (L ++ [none]).map Option.isSome = L.map Option.isSome ++ [false] := by simp
theorem bytesOf_set (L : List (Option Nat)) (k v : Nat) : bytesOf (L.set k (some v)) = (bytesOf L).set k v := by simp [bytesOf, List.map_set]
theorem isSome_set (L : List (Option Nat)) (k v : Nat) : (L.set k (some v)).map Option.isSome = (L.map Option.isSome).set k true := by simp [List.map_set]
def pad (L : List (Option Nat)) (j : Nat) : List (Option Nat) := L ++ List.replicate j none
theorem pad_zero (L : List (Option Nat)) : pad L 0 = L := by simp [pad]
theorem pad_succ (L : List (Option Nat)) (j : Nat) : pad L (j + 1) = pad L j ++ [none] := by
  simp only [pad, List.append_assoc]
  rw [List.replicate_succ']
theorem pad_len (L : List (Option Nat)) (j : Nat) : (pad L j).length = L.length + j := by simp [pad]
theorem ext_pad (L : List (Option Nat)) (k : Nat) : ext L k = pad L (k + 1 - L.length) := rfl
/-- In the middle: the numbers as they were, the rows as they are. -/
structure RefM (w : World) (m : Nat) (s : IB) (L : List (Option Nat)) (vB vC : Value) (ob oc : Option Nat) : Prop where
  blk : w.heap[m]? = some (.cells #[.int .u64 s.rd, .int .u64 s.hi, .int .u64 s.fin, .bool s.kn, vB, vC] 41 (0, 0))
  b : SlG encB 5 w vB ob (bytesOf L)
  c : SlG encL 4 w vC oc (L.map Option.isSome)
theorem RefM.apart {w : World} {m : Nat} {s : IB} {L : List (Option Nat)} {vB vC : Value} {ob oc : Option Nat} (h : RefM w m s L vB vC ob oc) : ob ≠ some m ∧ oc ≠ some m := by
  constructor
  · rintro rfl
    rcases h.b with ⟨_, _, h1⟩ | ⟨g, z, h1, _, hr, _⟩
    · cases h1
    · cases h1
      unfold Row at hr
      rw [h.blk] at hr
      simp at hr
  · rintro rfl
    rcases h.c with ⟨_, _, h1⟩ | ⟨g, z, h1, _, hr, _⟩
    · cases h1
    · cases h1
      unfold Row at hr
      rw [h.blk] at hr
      simp at hr
end Go.Proofs.Ytojklmbbepgciaa
