/-
  No cell of these rows narrows 'for every input' (looked for: loops, veiled, ifaces, maps, wideKeys, modest, calm, conditions, laid).
  DERIVED. THE GIVEN ROWS OF THIS SEAT. 4 by the template 'for every input the law returns true; each argument reads behind the call as it read before'; 0 by the template 'total and deterministic' (their statements: YtcnpodmifichfaaTotals.lean).
  GIVEN WITH THE SEED: the statements are not yours to turn. If you find one false, say at which input.
  Laid BY PROGRAM, IN A SANDBOX (cutbox-rows.mjs): the forced cells as the released guide's own fill.sh prints them over the translation 89d855eeaa9e1a01… (all of the seat's roots in one cut). By AI agents, Wed Nov 11 2026. No macro, syntax, notation, axiom, sorry.
-/
import Derived.Test.YtcnpodmifichfaaChecked
import GoSem.Claim
import GoSem.ClaimJoined
import GoSem.ClaimMapViews
import Derived.JoinedTies
import Derived.KernelRfl
namespace Go.Proofs.Ytcnpodmifichfaa
/- THE CELL 'sum', in the pinned program and in every row, IS THE sha256 OF THE DUMP (.gsa) THAT YtcnpodmifichfaaProg.lean LOADS. Nothing in Lean hashes anything: it is a label: what it is worth is what the hold of that sum in a sandbox is worth. -/
noncomputable def Try.pinned : Pinned := { name := "ytcnpodmifichfaa", sum := "89d855eeaa9e1a0196adbc01cbc58e743fe8bb50114269e1183440c618016715", checked := Try.checked }
namespace Rows
def none {H : Type} : Left H := { results := [], args := [] }

/-- 'narthexlaw10.RangesSets': WHATEVER THE INPUT: true; the input reads as it did. -/
def rangesSetsSpec : ChangeSpec := { name := "rangesSets", fn := fun _ => fun
  | [d] => { results := [.lit (.bool true)], args := [d] }
  | _ => none }
def rangesSetsRow : OpenClaim := { program := "ytcnpodmifichfaa", sum := "89d855eeaa9e1a0196adbc01cbc58e743fe8bb50114269e1183440c618016715", func := "narthex/narthexlaw10.RangesSets", spec := "rangesSets", inPlace := ["slices.overlaps[narthex/api.Range]"], unfollowed := true, recurses := true, apart := false }
def RangesSetsSaid : Prop := rangesSetsRow.holds Try.pinned (OpenSpec.ofChange rangesSetsSpec)

/-- ITS FALSE NEIGHBOUR: 'it returns false'. Refute it at one input. -/
def rangesSetsWrong : ChangeSpec := { name := "rangesSets", fn := fun _ => fun
  | [d] => { results := [.lit (.bool false)], args := [d] }
  | _ => none }
def RangesSetsWrongFalsely : Prop := rangesSetsRow.holds Try.pinned (OpenSpec.ofChange rangesSetsWrong)

/-- 'narthexlaw10.RangesGaps': WHATEVER THE INPUT: true; the input reads as it did. -/
def rangesGapsSpec : ChangeSpec := { name := "rangesGaps", fn := fun _ => fun
  | [d] => { results := [.lit (.bool true)], args := [d] }
  | _ => none }
def rangesGapsRow : OpenClaim := { program := "ytcnpodmifichfaa", sum := "89d855eeaa9e1a0196adbc01cbc58e743fe8bb50114269e1183440c618016715", func := "narthex/narthexlaw10.RangesGaps", spec := "rangesGaps", inPlace := ["slices.overlaps[narthex/api.Range]"], unfollowed := true, recurses := true, apart := false }
def RangesGapsSaid : Prop := rangesGapsRow.holds Try.pinned (OpenSpec.ofChange rangesGapsSpec)

/-- ITS FALSE NEIGHBOUR: 'it returns false'. Refute it at one input. -/
def rangesGapsWrong : ChangeSpec := { name := "rangesGaps", fn := fun _ => fun
  | [d] => { results := [.lit (.bool false)], args := [d] }
  | _ => none }
def RangesGapsWrongFalsely : Prop := rangesGapsRow.holds Try.pinned (OpenSpec.ofChange rangesGapsWrong)

/-- 'narthexlaw10.RangesNumbers': WHATEVER THE INPUT: true; the input reads as it did. -/
def rangesNumbersSpec : ChangeSpec := { name := "rangesNumbers", fn := fun _ => fun
  | [] => { results := [.lit (.bool true)], args := [] }
  | _ => none }
def rangesNumbersRow : OpenClaim := { program := "ytcnpodmifichfaa", sum := "89d855eeaa9e1a0196adbc01cbc58e743fe8bb50114269e1183440c618016715", func := "narthex/narthexlaw10.RangesNumbers", spec := "rangesNumbers", inPlace := ["slices.overlaps[narthex/api.Range]"], unfollowed := true, recurses := true, apart := false }
def RangesNumbersSaid : Prop := rangesNumbersRow.holds Try.pinned (OpenSpec.ofChange rangesNumbersSpec)

/-- ITS FALSE NEIGHBOUR: 'it returns false'. Refute it at one input. -/
def rangesNumbersWrong : ChangeSpec := { name := "rangesNumbers", fn := fun _ => fun
  | [] => { results := [.lit (.bool false)], args := [] }
  | _ => none }
def RangesNumbersWrongFalsely : Prop := rangesNumbersRow.holds Try.pinned (OpenSpec.ofChange rangesNumbersWrong)

/-- 'narthexlaw10.RangesPlays': WHATEVER THE INPUT: true; the input reads as it did. -/
def rangesPlaysSpec : ChangeSpec := { name := "rangesPlays", fn := fun _ => fun
  | [d1, d2, d3] => { results := [.lit (.bool true)], args := [d1, d2, d3] }
  | _ => none }
def rangesPlaysRow : OpenClaim := { program := "ytcnpodmifichfaa", sum := "89d855eeaa9e1a0196adbc01cbc58e743fe8bb50114269e1183440c618016715", func := "narthex/narthexlaw10.RangesPlays", spec := "rangesPlays", inPlace := ["slices.overlaps[narthex/api.Range]"], unfollowed := true, recurses := true, apart := false }
def RangesPlaysSaid : Prop := rangesPlaysRow.holds Try.pinned (OpenSpec.ofChange rangesPlaysSpec)

/-- ITS FALSE NEIGHBOUR: 'it returns false'. Refute it at one input. -/
def rangesPlaysWrong : ChangeSpec := { name := "rangesPlays", fn := fun _ => fun
  | [d1, d2, d3] => { results := [.lit (.bool false)], args := [d1, d2, d3] }
  | _ => none }
def RangesPlaysWrongFalsely : Prop := rangesPlaysRow.holds Try.pinned (OpenSpec.ofChange rangesPlaysWrong)

/- THE SECOND FORM. 'bulk': how many values and letters a reading holds, each counted each time it is reached (what is shared counts as often as it is met; a slice's spare places count too). A statement '..UptoSaid' is the law's where the arguments, and the package variables that the reading takes, are together of bulk at most 1048576: NARROWER than '..Said'. Prove '..Said' where nothing that the law and all that it calls make is longer than what came in: it says more and counts as full. Else prove '..UptoSaid'. A law counts once. -/
mutual
def uptoBulk {H : Type} : DataW H → Nat
  | .lit (.string bytes) => bytes.length + 1
  | .lit _ => 1
  | .nil => 1
  | .ptr d => uptoBulk d + 1
  | .slice elems spare => uptoBulkAll elems + uptoBulkAll spare + 1
  | .agg parts => uptoBulkAll parts + 1
  | .iface _ d => uptoBulk d + 1
  | .map entries => uptoBulkEntries entries + 1
  | .held _ => 1
def uptoBulkAll {H : Type} : List (DataW H) → Nat
  | [] => 0
  | d :: r => uptoBulk d + uptoBulkAll r
def uptoBulkEntries {H : Type} : List (Lit × DataW H) → Nat
  | [] => 0
  | x :: r => uptoBulkEntry x + uptoBulkEntries r
def uptoBulkEntry {H : Type} : Lit × DataW H → Nat
  | (.string bytes, d) => bytes.length + uptoBulk d + 1
  | (_, d) => uptoBulk d + 1
 end
def uptoSmall : (H : Type) → List (DataW H) → Bool := fun _ ds => decide (uptoBulkAll ds ≤ 1048576)
def OpenSpec.upto (s : _root_.Go.ChangeSpec) : _root_.Go.OpenSpec := { _root_.Go.OpenSpec.ofChange s with cond := some uptoSmall }

/-- 'narthexlaw10.RangesSets', WHERE WHAT IT READS IS OF BULK AT MOST 1048576: true; the input reads as it did. -/
def rangesSetsUptoRow : OpenClaim := { program := "ytcnpodmifichfaa", sum := "89d855eeaa9e1a0196adbc01cbc58e743fe8bb50114269e1183440c618016715", func := "narthex/narthexlaw10.RangesSets", spec := "rangesSets", inPlace := ["slices.overlaps[narthex/api.Range]"], unfollowed := true, recurses := true, apart := false, narrowed := true }
def RangesSetsUptoSaid : Prop := rangesSetsUptoRow.holds Try.pinned (OpenSpec.upto rangesSetsSpec)

/-- 'narthexlaw10.RangesGaps', WHERE WHAT IT READS IS OF BULK AT MOST 1048576: true; the input reads as it did. -/
def rangesGapsUptoRow : OpenClaim := { program := "ytcnpodmifichfaa", sum := "89d855eeaa9e1a0196adbc01cbc58e743fe8bb50114269e1183440c618016715", func := "narthex/narthexlaw10.RangesGaps", spec := "rangesGaps", inPlace := ["slices.overlaps[narthex/api.Range]"], unfollowed := true, recurses := true, apart := false, narrowed := true }
def RangesGapsUptoSaid : Prop := rangesGapsUptoRow.holds Try.pinned (OpenSpec.upto rangesGapsSpec)

/-- 'narthexlaw10.RangesNumbers', WHERE WHAT IT READS IS OF BULK AT MOST 1048576: true; the input reads as it did. -/
def rangesNumbersUptoRow : OpenClaim := { program := "ytcnpodmifichfaa", sum := "89d855eeaa9e1a0196adbc01cbc58e743fe8bb50114269e1183440c618016715", func := "narthex/narthexlaw10.RangesNumbers", spec := "rangesNumbers", inPlace := ["slices.overlaps[narthex/api.Range]"], unfollowed := true, recurses := true, apart := false, narrowed := true }
def RangesNumbersUptoSaid : Prop := rangesNumbersUptoRow.holds Try.pinned (OpenSpec.upto rangesNumbersSpec)

/-- 'narthexlaw10.RangesPlays', WHERE WHAT IT READS IS OF BULK AT MOST 1048576: true; the input reads as it did. -/
def rangesPlaysUptoRow : OpenClaim := { program := "ytcnpodmifichfaa", sum := "89d855eeaa9e1a0196adbc01cbc58e743fe8bb50114269e1183440c618016715", func := "narthex/narthexlaw10.RangesPlays", spec := "rangesPlays", inPlace := ["slices.overlaps[narthex/api.Range]"], unfollowed := true, recurses := true, apart := false, narrowed := true }
def RangesPlaysUptoSaid : Prop := rangesPlaysUptoRow.holds Try.pinned (OpenSpec.upto rangesPlaysSpec)

end Rows
end Go.Proofs.Ytcnpodmifichfaa
