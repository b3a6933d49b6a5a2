/-
  No cell of these rows narrows 'for every input' (looked for: loops, veiled, ifaces, maps, wideKeys, modest, calm, conditions, laid).
  DERIVED. THE GIVEN ROWS OF THIS SEAT. 4 by the template 'for every input the law returns true; each argument reads behind the call as it read before'; 0 by the template 'total and deterministic' (their statements: YtebiebcpdjipjaaTotals.lean).
  GIVEN WITH THE SEED: the statements are not yours to turn. If you find one false, say at which input.
  Laid BY PROGRAM, IN A SANDBOX (cutbox-rows.mjs): the forced cells as the released guide's own fill.sh prints them over the translation 27b35155a1abbf28… (all of the seat's roots in one cut). By AI agents, Wed Nov 11 2026. No macro, syntax, notation, axiom, sorry.
-/
import Derived.Test.YtebiebcpdjipjaaChecked
import GoSem.Claim
import GoSem.ClaimJoined
import GoSem.ClaimMapViews
import Derived.JoinedTies
import Derived.KernelRfl
namespace Go.Proofs.Ytebiebcpdjipjaa
/- THE CELL 'sum', in the pinned program and in every row, IS THE sha256 OF THE DUMP (.gsa) THAT YtebiebcpdjipjaaProg.lean LOADS. Nothing in Lean hashes anything: it is a label: what it is worth is what the hold of that sum in a sandbox is worth. -/
noncomputable def Try.pinned : Pinned := { name := "ytebiebcpdjipjaa", sum := "27b35155a1abbf28eff1630590dad23b262038beccd13c3c052af047ebdac905", checked := Try.checked }
namespace Rows
def none {H : Type} : Left H := { results := [], args := [] }

/-- 'narthexlaw17.ReceiverEnds': WHATEVER THE INPUT: true; the input reads as it did. -/
def receiverEndsSpec : ChangeSpec := { name := "receiverEnds", fn := fun _ => fun
  | [d1, d2, d3, d4] => { results := [.lit (.bool true)], args := [d1, d2, d3, d4] }
  | _ => none }
def receiverEndsRow : OpenClaim := { program := "ytebiebcpdjipjaa", sum := "27b35155a1abbf28eff1630590dad23b262038beccd13c3c052af047ebdac905", func := "narthex/narthexlaw17.ReceiverEnds", spec := "receiverEnds", inPlace := ["slices.overlaps[narthex/api.Range]"], unfollowed := true, recurses := true, apart := false }
def ReceiverEndsSaid : Prop := receiverEndsRow.holds Try.pinned (OpenSpec.ofChange receiverEndsSpec)

/-- ITS FALSE NEIGHBOUR: 'it returns false'. Refute it at one input. -/
def receiverEndsWrong : ChangeSpec := { name := "receiverEnds", fn := fun _ => fun
  | [d1, d2, d3, d4] => { results := [.lit (.bool false)], args := [d1, d2, d3, d4] }
  | _ => none }
def ReceiverEndsWrongFalsely : Prop := receiverEndsRow.holds Try.pinned (OpenSpec.ofChange receiverEndsWrong)

/-- 'narthexlaw17.ReceiverLimits': WHATEVER THE INPUT: true; the input reads as it did. -/
def receiverLimitsSpec : ChangeSpec := { name := "receiverLimits", fn := fun _ => fun
  | [d1, d2] => { results := [.lit (.bool true)], args := [d1, d2] }
  | _ => none }
def receiverLimitsRow : OpenClaim := { program := "ytebiebcpdjipjaa", sum := "27b35155a1abbf28eff1630590dad23b262038beccd13c3c052af047ebdac905", func := "narthex/narthexlaw17.ReceiverLimits", spec := "receiverLimits", inPlace := ["slices.overlaps[narthex/api.Range]"], unfollowed := true, recurses := true, apart := false }
def ReceiverLimitsSaid : Prop := receiverLimitsRow.holds Try.pinned (OpenSpec.ofChange receiverLimitsSpec)

/-- ITS FALSE NEIGHBOUR: 'it returns false'. Refute it at one input. -/
def receiverLimitsWrong : ChangeSpec := { name := "receiverLimits", fn := fun _ => fun
  | [d1, d2] => { results := [.lit (.bool false)], args := [d1, d2] }
  | _ => none }
def ReceiverLimitsWrongFalsely : Prop := receiverLimitsRow.holds Try.pinned (OpenSpec.ofChange receiverLimitsWrong)

/-- 'narthexlaw17.ReceiverNumbers': WHATEVER THE INPUT: true; the input reads as it did. -/
def receiverNumbersSpec : ChangeSpec := { name := "receiverNumbers", fn := fun _ => fun
  | [] => { results := [.lit (.bool true)], args := [] }
  | _ => none }
def receiverNumbersRow : OpenClaim := { program := "ytebiebcpdjipjaa", sum := "27b35155a1abbf28eff1630590dad23b262038beccd13c3c052af047ebdac905", func := "narthex/narthexlaw17.ReceiverNumbers", spec := "receiverNumbers", inPlace := ["slices.overlaps[narthex/api.Range]"], unfollowed := true, recurses := true, apart := false }
def ReceiverNumbersSaid : Prop := receiverNumbersRow.holds Try.pinned (OpenSpec.ofChange receiverNumbersSpec)

/-- ITS FALSE NEIGHBOUR: 'it returns false'. Refute it at one input. -/
def receiverNumbersWrong : ChangeSpec := { name := "receiverNumbers", fn := fun _ => fun
  | [] => { results := [.lit (.bool false)], args := [] }
  | _ => none }
def ReceiverNumbersWrongFalsely : Prop := receiverNumbersRow.holds Try.pinned (OpenSpec.ofChange receiverNumbersWrong)

/-- 'narthexlaw17.ReceiverPlays': WHATEVER THE INPUT: true; the input reads as it did. -/
def receiverPlaysSpec : ChangeSpec := { name := "receiverPlays", fn := fun _ => fun
  | [d1, d2, d3] => { results := [.lit (.bool true)], args := [d1, d2, d3] }
  | _ => none }
def receiverPlaysRow : OpenClaim := { program := "ytebiebcpdjipjaa", sum := "27b35155a1abbf28eff1630590dad23b262038beccd13c3c052af047ebdac905", func := "narthex/narthexlaw17.ReceiverPlays", spec := "receiverPlays", inPlace := ["slices.overlaps[narthex/api.Range]"], unfollowed := true, recurses := true, apart := false }
def ReceiverPlaysSaid : Prop := receiverPlaysRow.holds Try.pinned (OpenSpec.ofChange receiverPlaysSpec)

/-- ITS FALSE NEIGHBOUR: 'it returns false'. Refute it at one input. -/
def receiverPlaysWrong : ChangeSpec := { name := "receiverPlays", fn := fun _ => fun
  | [d1, d2, d3] => { results := [.lit (.bool false)], args := [d1, d2, d3] }
  | _ => none }
def ReceiverPlaysWrongFalsely : Prop := receiverPlaysRow.holds Try.pinned (OpenSpec.ofChange receiverPlaysWrong)

/- THE SECOND FORM. 'bulk': how many values and letters a reading holds, each counted each time it is reached (what is shared counts as often as it is met; a slice's spare places count too). A statement '..UptoSaid' is the law's where the arguments, and the package variables that the reading takes, are together of bulk at most 1048576: NARROWER than '..Said'. Prove '..Said' where nothing that the law and all that it calls make is longer than what came in: it says more and counts as full. Else prove '..UptoSaid'. A law counts once. -/
mutual
def uptoBulk {H : Type} : DataW H → Nat
  | .lit (.string bytes) => bytes.length + 1
  | .lit _ => 1
  | .nil => 1
  | .ptr d => uptoBulk d + 1
  | .slice elems spare => uptoBulkAll elems + uptoBulkAll spare + 1
  | .agg parts => uptoBulkAll parts + 1
  | .iface _ d => uptoBulk d + 1
  | .map entries => uptoBulkEntries entries + 1
  | .held _ => 1
def uptoBulkAll {H : Type} : List (DataW H) → Nat
  | [] => 0
  | d :: r => uptoBulk d + uptoBulkAll r
def uptoBulkEntries {H : Type} : List (Lit × DataW H) → Nat
  | [] => 0
  | x :: r => uptoBulkEntry x + uptoBulkEntries r
def uptoBulkEntry {H : Type} : Lit × DataW H → Nat
  | (.string bytes, d) => bytes.length + uptoBulk d + 1
  | (_, d) => uptoBulk d + 1
 end
def uptoSmall : (H : Type) → List (DataW H) → Bool := fun _ ds => decide (uptoBulkAll ds ≤ 1048576)
def OpenSpec.upto (s : _root_.Go.ChangeSpec) : _root_.Go.OpenSpec := { _root_.Go.OpenSpec.ofChange s with cond := some uptoSmall }

/-- 'narthexlaw17.ReceiverEnds', WHERE WHAT IT READS IS OF BULK AT MOST 1048576: true; the input reads as it did. -/
def receiverEndsUptoRow : OpenClaim := { program := "ytebiebcpdjipjaa", sum := "27b35155a1abbf28eff1630590dad23b262038beccd13c3c052af047ebdac905", func := "narthex/narthexlaw17.ReceiverEnds", spec := "receiverEnds", inPlace := ["slices.overlaps[narthex/api.Range]"], unfollowed := true, recurses := true, apart := false, narrowed := true }
def ReceiverEndsUptoSaid : Prop := receiverEndsUptoRow.holds Try.pinned (OpenSpec.upto receiverEndsSpec)

/-- 'narthexlaw17.ReceiverLimits', WHERE WHAT IT READS IS OF BULK AT MOST 1048576: true; the input reads as it did. -/
def receiverLimitsUptoRow : OpenClaim := { program := "ytebiebcpdjipjaa", sum := "27b35155a1abbf28eff1630590dad23b262038beccd13c3c052af047ebdac905", func := "narthex/narthexlaw17.ReceiverLimits", spec := "receiverLimits", inPlace := ["slices.overlaps[narthex/api.Range]"], unfollowed := true, recurses := true, apart := false, narrowed := true }
def ReceiverLimitsUptoSaid : Prop := receiverLimitsUptoRow.holds Try.pinned (OpenSpec.upto receiverLimitsSpec)

/-- 'narthexlaw17.ReceiverNumbers', WHERE WHAT IT READS IS OF BULK AT MOST 1048576: true; the input reads as it did. -/
def receiverNumbersUptoRow : OpenClaim := { program := "ytebiebcpdjipjaa", sum := "27b35155a1abbf28eff1630590dad23b262038beccd13c3c052af047ebdac905", func := "narthex/narthexlaw17.ReceiverNumbers", spec := "receiverNumbers", inPlace := ["slices.overlaps[narthex/api.Range]"], unfollowed := true, recurses := true, apart := false, narrowed := true }
def ReceiverNumbersUptoSaid : Prop := receiverNumbersUptoRow.holds Try.pinned (OpenSpec.upto receiverNumbersSpec)

/-- 'narthexlaw17.ReceiverPlays', WHERE WHAT IT READS IS OF BULK AT MOST 1048576: true; the input reads as it did. -/
def receiverPlaysUptoRow : OpenClaim := { program := "ytebiebcpdjipjaa", sum := "27b35155a1abbf28eff1630590dad23b262038beccd13c3c052af047ebdac905", func := "narthex/narthexlaw17.ReceiverPlays", spec := "receiverPlays", inPlace := ["slices.overlaps[narthex/api.Range]"], unfollowed := true, recurses := true, apart := false, narrowed := true }
def ReceiverPlaysUptoSaid : Prop := receiverPlaysUptoRow.holds Try.pinned (OpenSpec.upto receiverPlaysSpec)

end Rows
end Go.Proofs.Ytebiebcpdjipjaa
