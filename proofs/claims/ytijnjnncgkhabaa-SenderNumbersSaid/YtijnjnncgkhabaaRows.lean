/-
  No cell of these rows narrows 'for every input' (looked for: loops, veiled, ifaces, maps, wideKeys, modest, calm, conditions, laid).
  DERIVED. THE GIVEN ROWS OF THIS SEAT. 5 by the template 'for every input the law returns true; each argument reads behind the call as it read before'; 0 by the template 'total and deterministic' (their statements: YtijnjnncgkhabaaTotals.lean).
  GIVEN WITH THE SEED: the statements are not yours to turn. If you find one false, say at which input.
  Laid BY PROGRAM, IN A SANDBOX (cutbox-rows.mjs): the forced cells as the released guide's own fill.sh prints them over the translation 871d3f883007e221… (all of the seat's roots in one cut). By AI agents, Wed Nov 11 2026. No macro, syntax, notation, axiom, sorry.
-/
import Derived.Test.YtijnjnncgkhabaaChecked
import GoSem.Claim
import GoSem.ClaimJoined
import GoSem.ClaimMapViews
import Derived.JoinedTies
import Derived.KernelRfl
namespace Go.Proofs.Ytijnjnncgkhabaa
/- THE CELL 'sum', in the pinned program and in every row, IS THE sha256 OF THE DUMP (.gsa) THAT YtijnjnncgkhabaaProg.lean LOADS. Nothing in Lean hashes anything: it is a label: what it is worth is what the hold of that sum in a sandbox is worth. -/
noncomputable def Try.pinned : Pinned := { name := "ytijnjnncgkhabaa", sum := "871d3f883007e22186861b443a36c640511a3f91a2b4cf856e25a0441ea6eb43", checked := Try.checked }
namespace Rows
def none {H : Type} : Left H := { results := [], args := [] }

/-- 'narthexlaw15.OutbufNumbers': WHATEVER THE INPUT: true; the input reads as it did. -/
def outbufNumbersSpec : ChangeSpec := { name := "outbufNumbers", fn := fun _ => fun
  | [] => { results := [.lit (.bool true)], args := [] }
  | _ => none }
def outbufNumbersRow : OpenClaim := { program := "ytijnjnncgkhabaa", sum := "871d3f883007e22186861b443a36c640511a3f91a2b4cf856e25a0441ea6eb43", func := "narthex/narthexlaw15.OutbufNumbers", spec := "outbufNumbers", inPlace := ["slices.overlaps[narthex/api.Range]"], unfollowed := true, recurses := true, apart := false }
def OutbufNumbersSaid : Prop := outbufNumbersRow.holds Try.pinned (OpenSpec.ofChange outbufNumbersSpec)

/-- ITS FALSE NEIGHBOUR: 'it returns false'. Refute it at one input. -/
def outbufNumbersWrong : ChangeSpec := { name := "outbufNumbers", fn := fun _ => fun
  | [] => { results := [.lit (.bool false)], args := [] }
  | _ => none }
def OutbufNumbersWrongFalsely : Prop := outbufNumbersRow.holds Try.pinned (OpenSpec.ofChange outbufNumbersWrong)

/-- 'narthexlaw11.SentNumbers': WHATEVER THE INPUT: true; the input reads as it did. -/
def sentNumbersSpec : ChangeSpec := { name := "sentNumbers", fn := fun _ => fun
  | [] => { results := [.lit (.bool true)], args := [] }
  | _ => none }
def sentNumbersRow : OpenClaim := { program := "ytijnjnncgkhabaa", sum := "871d3f883007e22186861b443a36c640511a3f91a2b4cf856e25a0441ea6eb43", func := "narthex/narthexlaw11.SentNumbers", spec := "sentNumbers", inPlace := ["slices.overlaps[narthex/api.Range]"], unfollowed := true, recurses := true, apart := false }
def SentNumbersSaid : Prop := sentNumbersRow.holds Try.pinned (OpenSpec.ofChange sentNumbersSpec)

/-- ITS FALSE NEIGHBOUR: 'it returns false'. Refute it at one input. -/
def sentNumbersWrong : ChangeSpec := { name := "sentNumbers", fn := fun _ => fun
  | [] => { results := [.lit (.bool false)], args := [] }
  | _ => none }
def SentNumbersWrongFalsely : Prop := sentNumbersRow.holds Try.pinned (OpenSpec.ofChange sentNumbersWrong)

/-- 'narthexlaw18.StreamsNumbers': WHATEVER THE INPUT: true; the input reads as it did. -/
def streamsNumbersSpec : ChangeSpec := { name := "streamsNumbers", fn := fun _ => fun
  | [] => { results := [.lit (.bool true)], args := [] }
  | _ => none }
def streamsNumbersRow : OpenClaim := { program := "ytijnjnncgkhabaa", sum := "871d3f883007e22186861b443a36c640511a3f91a2b4cf856e25a0441ea6eb43", func := "narthex/narthexlaw18.StreamsNumbers", spec := "streamsNumbers", inPlace := ["slices.overlaps[narthex/api.Range]"], unfollowed := true, recurses := true, apart := false }
def StreamsNumbersSaid : Prop := streamsNumbersRow.holds Try.pinned (OpenSpec.ofChange streamsNumbersSpec)

/-- ITS FALSE NEIGHBOUR: 'it returns false'. Refute it at one input. -/
def streamsNumbersWrong : ChangeSpec := { name := "streamsNumbers", fn := fun _ => fun
  | [] => { results := [.lit (.bool false)], args := [] }
  | _ => none }
def StreamsNumbersWrongFalsely : Prop := streamsNumbersRow.holds Try.pinned (OpenSpec.ofChange streamsNumbersWrong)

/-- 'narthexlaw17.ReceiverNumbers': WHATEVER THE INPUT: true; the input reads as it did. -/
def receiverNumbersSpec : ChangeSpec := { name := "receiverNumbers", fn := fun _ => fun
  | [] => { results := [.lit (.bool true)], args := [] }
  | _ => none }
def receiverNumbersRow : OpenClaim := { program := "ytijnjnncgkhabaa", sum := "871d3f883007e22186861b443a36c640511a3f91a2b4cf856e25a0441ea6eb43", func := "narthex/narthexlaw17.ReceiverNumbers", spec := "receiverNumbers", inPlace := ["slices.overlaps[narthex/api.Range]"], unfollowed := true, recurses := true, apart := false }
def ReceiverNumbersSaid : Prop := receiverNumbersRow.holds Try.pinned (OpenSpec.ofChange receiverNumbersSpec)

/-- ITS FALSE NEIGHBOUR: 'it returns false'. Refute it at one input. -/
def receiverNumbersWrong : ChangeSpec := { name := "receiverNumbers", fn := fun _ => fun
  | [] => { results := [.lit (.bool false)], args := [] }
  | _ => none }
def ReceiverNumbersWrongFalsely : Prop := receiverNumbersRow.holds Try.pinned (OpenSpec.ofChange receiverNumbersWrong)

/-- 'narthexlaw16.SenderNumbers': WHATEVER THE INPUT: true; the input reads as it did. -/
def senderNumbersSpec : ChangeSpec := { name := "senderNumbers", fn := fun _ => fun
  | [] => { results := [.lit (.bool true)], args := [] }
  | _ => none }
def senderNumbersRow : OpenClaim := { program := "ytijnjnncgkhabaa", sum := "871d3f883007e22186861b443a36c640511a3f91a2b4cf856e25a0441ea6eb43", func := "narthex/narthexlaw16.SenderNumbers", spec := "senderNumbers", inPlace := ["slices.overlaps[narthex/api.Range]"], unfollowed := true, recurses := true, apart := false }
def SenderNumbersSaid : Prop := senderNumbersRow.holds Try.pinned (OpenSpec.ofChange senderNumbersSpec)

/-- ITS FALSE NEIGHBOUR: 'it returns false'. Refute it at one input. -/
def senderNumbersWrong : ChangeSpec := { name := "senderNumbers", fn := fun _ => fun
  | [] => { results := [.lit (.bool false)], args := [] }
  | _ => none }
def SenderNumbersWrongFalsely : Prop := senderNumbersRow.holds Try.pinned (OpenSpec.ofChange senderNumbersWrong)

/- THE SECOND FORM. 'bulk': how many values and letters a reading holds, each counted each time it is reached (what is shared counts as often as it is met; a slice's spare places count too). A statement '..UptoSaid' is the law's where the arguments, and the package variables that the reading takes, are together of bulk at most 1048576: NARROWER than '..Said'. Prove '..Said' where nothing that the law and all that it calls make is longer than what came in: it says more and counts as full. Else prove '..UptoSaid'. A law counts once. -/
mutual
def uptoBulk {H : Type} : DataW H → Nat
  | .lit (.string bytes) => bytes.length + 1
  | .lit _ => 1
  | .nil => 1
  | .ptr d => uptoBulk d + 1
  | .slice elems spare => uptoBulkAll elems + uptoBulkAll spare + 1
  | .agg parts => uptoBulkAll parts + 1
  | .iface _ d => uptoBulk d + 1
  | .map entries => uptoBulkEntries entries + 1
  | .held _ => 1
def uptoBulkAll {H : Type} : List (DataW H) → Nat
  | [] => 0
  | d :: r => uptoBulk d + uptoBulkAll r
def uptoBulkEntries {H : Type} : List (Lit × DataW H) → Nat
  | [] => 0
  | x :: r => uptoBulkEntry x + uptoBulkEntries r
def uptoBulkEntry {H : Type} : Lit × DataW H → Nat
  | (.string bytes, d) => bytes.length + uptoBulk d + 1
  | (_, d) => uptoBulk d + 1
 end
def uptoSmall : (H : Type) → List (DataW H) → Bool := fun _ ds => decide (uptoBulkAll ds ≤ 1048576)
def OpenSpec.upto (s : _root_.Go.ChangeSpec) : _root_.Go.OpenSpec := { _root_.Go.OpenSpec.ofChange s with cond := some uptoSmall }

/-- 'narthexlaw15.OutbufNumbers', WHERE WHAT IT READS IS OF BULK AT MOST 1048576: true; the input reads as it did. -/
def outbufNumbersUptoRow : OpenClaim := { program := "ytijnjnncgkhabaa", sum := "871d3f883007e22186861b443a36c640511a3f91a2b4cf856e25a0441ea6eb43", func := "narthex/narthexlaw15.OutbufNumbers", spec := "outbufNumbers", inPlace := ["slices.overlaps[narthex/api.Range]"], unfollowed := true, recurses := true, apart := false, narrowed := true }
def OutbufNumbersUptoSaid : Prop := outbufNumbersUptoRow.holds Try.pinned (OpenSpec.upto outbufNumbersSpec)

/-- 'narthexlaw11.SentNumbers', WHERE WHAT IT READS IS OF BULK AT MOST 1048576: true; the input reads as it did. -/
def sentNumbersUptoRow : OpenClaim := { program := "ytijnjnncgkhabaa", sum := "871d3f883007e22186861b443a36c640511a3f91a2b4cf856e25a0441ea6eb43", func := "narthex/narthexlaw11.SentNumbers", spec := "sentNumbers", inPlace := ["slices.overlaps[narthex/api.Range]"], unfollowed := true, recurses := true, apart := false, narrowed := true }
def SentNumbersUptoSaid : Prop := sentNumbersUptoRow.holds Try.pinned (OpenSpec.upto sentNumbersSpec)

/-- 'narthexlaw18.StreamsNumbers', WHERE WHAT IT READS IS OF BULK AT MOST 1048576: true; the input reads as it did. -/
def streamsNumbersUptoRow : OpenClaim := { program := "ytijnjnncgkhabaa", sum := "871d3f883007e22186861b443a36c640511a3f91a2b4cf856e25a0441ea6eb43", func := "narthex/narthexlaw18.StreamsNumbers", spec := "streamsNumbers", inPlace := ["slices.overlaps[narthex/api.Range]"], unfollowed := true, recurses := true, apart := false, narrowed := true }
def StreamsNumbersUptoSaid : Prop := streamsNumbersUptoRow.holds Try.pinned (OpenSpec.upto streamsNumbersSpec)

/-- 'narthexlaw17.ReceiverNumbers', WHERE WHAT IT READS IS OF BULK AT MOST 1048576: true; the input reads as it did. -/
def receiverNumbersUptoRow : OpenClaim := { program := "ytijnjnncgkhabaa", sum := "871d3f883007e22186861b443a36c640511a3f91a2b4cf856e25a0441ea6eb43", func := "narthex/narthexlaw17.ReceiverNumbers", spec := "receiverNumbers", inPlace := ["slices.overlaps[narthex/api.Range]"], unfollowed := true, recurses := true, apart := false, narrowed := true }
def ReceiverNumbersUptoSaid : Prop := receiverNumbersUptoRow.holds Try.pinned (OpenSpec.upto receiverNumbersSpec)

/-- 'narthexlaw16.SenderNumbers', WHERE WHAT IT READS IS OF BULK AT MOST 1048576: true; the input reads as it did. -/
def senderNumbersUptoRow : OpenClaim := { program := "ytijnjnncgkhabaa", sum := "871d3f883007e22186861b443a36c640511a3f91a2b4cf856e25a0441ea6eb43", func := "narthex/narthexlaw16.SenderNumbers", spec := "senderNumbers", inPlace := ["slices.overlaps[narthex/api.Range]"], unfollowed := true, recurses := true, apart := false, narrowed := true }
def SenderNumbersUptoSaid : Prop := senderNumbersUptoRow.holds Try.pinned (OpenSpec.upto senderNumbersSpec)

end Rows
end Go.Proofs.Ytijnjnncgkhabaa
