/-
  No cell of these rows narrows 'for every input' (looked for: loops, veiled, ifaces, maps, wideKeys, modest, calm, conditions, laid).
  DERIVED. THE GIVEN ROWS OF THIS SEAT. 4 by the template 'for every input the law returns true; each argument reads behind the call as it read before'; 0 by the template 'total and deterministic' (their statements: YtacfbgnbjdckiaaTotals.lean).
  GIVEN WITH THE SEED: the statements are not yours to turn. If you find one false, say at which input.
  Laid BY PROGRAM, IN A SANDBOX (cutbox-rows.mjs): the forced cells as the released guide's own fill.sh prints them over the translation a6caad51c0e49ceb… (all of the seat's roots in one cut). By AI agents, Wed Nov 11 2026. No macro, syntax, notation, axiom, sorry.
-/
import Derived.Test.YtacfbgnbjdckiaaChecked
import GoSem.Claim
import GoSem.ClaimJoined
import GoSem.ClaimMapViews
import Derived.JoinedTies
import Derived.KernelRfl
namespace Go.Proofs.Ytacfbgnbjdckiaa
/- THE CELL 'sum', in the pinned program and in every row, IS THE sha256 OF THE DUMP (.gsa) THAT YtacfbgnbjdckiaaProg.lean LOADS. Nothing in Lean hashes anything: it is a label: what it is worth is what the hold of that sum in a sandbox is worth. -/
noncomputable def Try.pinned : Pinned := { name := "ytacfbgnbjdckiaa", sum := "a6caad51c0e49cebf5928da4c08f7b5883b16810004b4bae05d5269168ed3785", checked := Try.checked }
namespace Rows
def none {H : Type} : Left H := { results := [], args := [] }

/-- 'narthexlaw11.SentOnce': WHATEVER THE INPUT: true; the input reads as it did. -/
def sentOnceSpec : ChangeSpec := { name := "sentOnce", fn := fun _ => fun
  | [d1, d2] => { results := [.lit (.bool true)], args := [d1, d2] }
  | _ => none }
def sentOnceRow : OpenClaim := { program := "ytacfbgnbjdckiaa", sum := "a6caad51c0e49cebf5928da4c08f7b5883b16810004b4bae05d5269168ed3785", func := "narthex/narthexlaw11.SentOnce", spec := "sentOnce", inPlace := ["slices.overlaps[narthex/api.Range]"], unfollowed := true, recurses := true, apart := false }
def SentOnceSaid : Prop := sentOnceRow.holds Try.pinned (OpenSpec.ofChange sentOnceSpec)

/-- ITS FALSE NEIGHBOUR: 'it returns false'. Refute it at one input. -/
def sentOnceWrong : ChangeSpec := { name := "sentOnce", fn := fun _ => fun
  | [d1, d2] => { results := [.lit (.bool false)], args := [d1, d2] }
  | _ => none }
def SentOnceWrongFalsely : Prop := sentOnceRow.holds Try.pinned (OpenSpec.ofChange sentOnceWrong)

/-- 'narthexlaw11.SentThree': WHATEVER THE INPUT: true; the input reads as it did. -/
def sentThreeSpec : ChangeSpec := { name := "sentThree", fn := fun _ => fun
  | [d1, d2] => { results := [.lit (.bool true)], args := [d1, d2] }
  | _ => none }
def sentThreeRow : OpenClaim := { program := "ytacfbgnbjdckiaa", sum := "a6caad51c0e49cebf5928da4c08f7b5883b16810004b4bae05d5269168ed3785", func := "narthex/narthexlaw11.SentThree", spec := "sentThree", inPlace := ["slices.overlaps[narthex/api.Range]"], unfollowed := true, recurses := true, apart := false }
def SentThreeSaid : Prop := sentThreeRow.holds Try.pinned (OpenSpec.ofChange sentThreeSpec)

/-- ITS FALSE NEIGHBOUR: 'it returns false'. Refute it at one input. -/
def sentThreeWrong : ChangeSpec := { name := "sentThree", fn := fun _ => fun
  | [d1, d2] => { results := [.lit (.bool false)], args := [d1, d2] }
  | _ => none }
def SentThreeWrongFalsely : Prop := sentThreeRow.holds Try.pinned (OpenSpec.ofChange sentThreeWrong)

/-- 'narthexlaw11.SentNumbers': WHATEVER THE INPUT: true; the input reads as it did. -/
def sentNumbersSpec : ChangeSpec := { name := "sentNumbers", fn := fun _ => fun
  | [] => { results := [.lit (.bool true)], args := [] }
  | _ => none }
def sentNumbersRow : OpenClaim := { program := "ytacfbgnbjdckiaa", sum := "a6caad51c0e49cebf5928da4c08f7b5883b16810004b4bae05d5269168ed3785", func := "narthex/narthexlaw11.SentNumbers", spec := "sentNumbers", inPlace := ["slices.overlaps[narthex/api.Range]"], unfollowed := true, recurses := true, apart := false }
def SentNumbersSaid : Prop := sentNumbersRow.holds Try.pinned (OpenSpec.ofChange sentNumbersSpec)

/-- ITS FALSE NEIGHBOUR: 'it returns false'. Refute it at one input. -/
def sentNumbersWrong : ChangeSpec := { name := "sentNumbers", fn := fun _ => fun
  | [] => { results := [.lit (.bool false)], args := [] }
  | _ => none }
def SentNumbersWrongFalsely : Prop := sentNumbersRow.holds Try.pinned (OpenSpec.ofChange sentNumbersWrong)

/-- 'narthexlaw11.SentPlays': WHATEVER THE INPUT: true; the input reads as it did. -/
def sentPlaysSpec : ChangeSpec := { name := "sentPlays", fn := fun _ => fun
  | [d] => { results := [.lit (.bool true)], args := [d] }
  | _ => none }
def sentPlaysRow : OpenClaim := { program := "ytacfbgnbjdckiaa", sum := "a6caad51c0e49cebf5928da4c08f7b5883b16810004b4bae05d5269168ed3785", func := "narthex/narthexlaw11.SentPlays", spec := "sentPlays", inPlace := ["slices.overlaps[narthex/api.Range]"], unfollowed := true, recurses := true, apart := false }
def SentPlaysSaid : Prop := sentPlaysRow.holds Try.pinned (OpenSpec.ofChange sentPlaysSpec)

/-- ITS FALSE NEIGHBOUR: 'it returns false'. Refute it at one input. -/
def sentPlaysWrong : ChangeSpec := { name := "sentPlays", fn := fun _ => fun
  | [d] => { results := [.lit (.bool false)], args := [d] }
  | _ => none }
def SentPlaysWrongFalsely : Prop := sentPlaysRow.holds Try.pinned (OpenSpec.ofChange sentPlaysWrong)

/- THE SECOND FORM. 'bulk': how many values and letters a reading holds, each counted each time it is reached (what is shared counts as often as it is met; a slice's spare places count too). A statement '..UptoSaid' is the law's where the arguments, and the package variables that the reading takes, are together of bulk at most 1048576: NARROWER than '..Said'. Prove '..Said' where nothing that the law and all that it calls make is longer than what came in: it says more and counts as full. Else prove '..UptoSaid'. A law counts once. -/
mutual
def uptoBulk {H : Type} : DataW H → Nat
  | .lit (.string bytes) => bytes.length + 1
  | .lit _ => 1
  | .nil => 1
  | .ptr d => uptoBulk d + 1
  | .slice elems spare => uptoBulkAll elems + uptoBulkAll spare + 1
  | .agg parts => uptoBulkAll parts + 1
  | .iface _ d => uptoBulk d + 1
  | .map entries => uptoBulkEntries entries + 1
  | .held _ => 1
def uptoBulkAll {H : Type} : List (DataW H) → Nat
  | [] => 0
  | d :: r => uptoBulk d + uptoBulkAll r
def uptoBulkEntries {H : Type} : List (Lit × DataW H) → Nat
  | [] => 0
  | x :: r => uptoBulkEntry x + uptoBulkEntries r
def uptoBulkEntry {H : Type} : Lit × DataW H → Nat
  | (.string bytes, d) => bytes.length + uptoBulk d + 1
  | (_, d) => uptoBulk d + 1
 end
def uptoSmall : (H : Type) → List (DataW H) → Bool := fun _ ds => decide (uptoBulkAll ds ≤ 1048576)
def OpenSpec.upto (s : _root_.Go.ChangeSpec) : _root_.Go.OpenSpec := { _root_.Go.OpenSpec.ofChange s with cond := some uptoSmall }

/-- 'narthexlaw11.SentOnce', WHERE WHAT IT READS IS OF BULK AT MOST 1048576: true; the input reads as it did. -/
def sentOnceUptoRow : OpenClaim := { program := "ytacfbgnbjdckiaa", sum := "a6caad51c0e49cebf5928da4c08f7b5883b16810004b4bae05d5269168ed3785", func := "narthex/narthexlaw11.SentOnce", spec := "sentOnce", inPlace := ["slices.overlaps[narthex/api.Range]"], unfollowed := true, recurses := true, apart := false, narrowed := true }
def SentOnceUptoSaid : Prop := sentOnceUptoRow.holds Try.pinned (OpenSpec.upto sentOnceSpec)

/-- 'narthexlaw11.SentThree', WHERE WHAT IT READS IS OF BULK AT MOST 1048576: true; the input reads as it did. -/
def sentThreeUptoRow : OpenClaim := { program := "ytacfbgnbjdckiaa", sum := "a6caad51c0e49cebf5928da4c08f7b5883b16810004b4bae05d5269168ed3785", func := "narthex/narthexlaw11.SentThree", spec := "sentThree", inPlace := ["slices.overlaps[narthex/api.Range]"], unfollowed := true, recurses := true, apart := false, narrowed := true }
def SentThreeUptoSaid : Prop := sentThreeUptoRow.holds Try.pinned (OpenSpec.upto sentThreeSpec)

/-- 'narthexlaw11.SentNumbers', WHERE WHAT IT READS IS OF BULK AT MOST 1048576: true; the input reads as it did. -/
def sentNumbersUptoRow : OpenClaim := { program := "ytacfbgnbjdckiaa", sum := "a6caad51c0e49cebf5928da4c08f7b5883b16810004b4bae05d5269168ed3785", func := "narthex/narthexlaw11.SentNumbers", spec := "sentNumbers", inPlace := ["slices.overlaps[narthex/api.Range]"], unfollowed := true, recurses := true, apart := false, narrowed := true }
def SentNumbersUptoSaid : Prop := sentNumbersUptoRow.holds Try.pinned (OpenSpec.upto sentNumbersSpec)

/-- 'narthexlaw11.SentPlays', WHERE WHAT IT READS IS OF BULK AT MOST 1048576: true; the input reads as it did. -/
def sentPlaysUptoRow : OpenClaim := { program := "ytacfbgnbjdckiaa", sum := "a6caad51c0e49cebf5928da4c08f7b5883b16810004b4bae05d5269168ed3785", func := "narthex/narthexlaw11.SentPlays", spec := "sentPlays", inPlace := ["slices.overlaps[narthex/api.Range]"], unfollowed := true, recurses := true, apart := false, narrowed := true }
def SentPlaysUptoSaid : Prop := sentPlaysUptoRow.holds Try.pinned (OpenSpec.upto sentPlaysSpec)

end Rows
end Go.Proofs.Ytacfbgnbjdckiaa
