/-
  No cell of these rows narrows 'for every input' (looked for: loops, veiled, ifaces, maps, wideKeys, modest, calm, conditions, laid).
  DERIVED. THE GIVEN ROWS OF THIS SEAT. 3 by the template 'for every input the law returns true; each argument reads behind the call as it read before'; 0 by the template 'total and deterministic' (their statements: YtncfbaabhceeoaaTotals.lean).
  GIVEN WITH THE SEED: the statements are not yours to turn. If you find one false, say at which input.
  Laid BY PROGRAM, IN A SANDBOX (cutbox-rows.mjs): the forced cells as the released guide's own fill.sh prints them over the translation 62f21718210066d6… (all of the seat's roots in one cut). By AI agents, Wed Nov 11 2026. No macro, syntax, notation, axiom, sorry.
-/
import Derived.Test.YtncfbaabhceeoaaChecked
import GoSem.Claim
import GoSem.ClaimJoined
import GoSem.ClaimMapViews
import Derived.JoinedTies
import Derived.KernelRfl
namespace Go.Proofs.Ytncfbaabhceeoaa
/- THE CELL 'sum', in the pinned program and in every row, IS THE sha256 OF THE DUMP (.gsa) THAT YtncfbaabhceeoaaProg.lean LOADS. Nothing in Lean hashes anything: it is a label: what it is worth is what the hold of that sum in a sandbox is worth. -/
noncomputable def Try.pinned : Pinned := { name := "ytncfbaabhceeoaa", sum := "62f21718210066d6db75c8c7dd34627cf34add4b7895f41579649a65d8a41120", checked := Try.checked }
namespace Rows
def none {H : Type} : Left H := { results := [], args := [] }

/-- 'narthexlaw18.StreamsOpen': WHATEVER THE INPUT: true; the input reads as it did. -/
def streamsOpenSpec : ChangeSpec := { name := "streamsOpen", fn := fun _ => fun
  | [d1, d2, d3] => { results := [.lit (.bool true)], args := [d1, d2, d3] }
  | _ => none }
def streamsOpenRow : OpenClaim := { program := "ytncfbaabhceeoaa", sum := "62f21718210066d6db75c8c7dd34627cf34add4b7895f41579649a65d8a41120", func := "narthex/narthexlaw18.StreamsOpen", spec := "streamsOpen", inPlace := ["slices.overlaps[narthex/api.Range]"], unfollowed := true, recurses := true, apart := false }
def StreamsOpenSaid : Prop := streamsOpenRow.holds Try.pinned (OpenSpec.ofChange streamsOpenSpec)

/-- ITS FALSE NEIGHBOUR: 'it returns false'. Refute it at one input. -/
def streamsOpenWrong : ChangeSpec := { name := "streamsOpen", fn := fun _ => fun
  | [d1, d2, d3] => { results := [.lit (.bool false)], args := [d1, d2, d3] }
  | _ => none }
def StreamsOpenWrongFalsely : Prop := streamsOpenRow.holds Try.pinned (OpenSpec.ofChange streamsOpenWrong)

/-- 'narthexlaw16.SenderKeeps': WHATEVER THE INPUT: true; the input reads as it did. -/
def senderKeepsSpec : ChangeSpec := { name := "senderKeeps", fn := fun _ => fun
  | [d] => { results := [.lit (.bool true)], args := [d] }
  | _ => none }
def senderKeepsRow : OpenClaim := { program := "ytncfbaabhceeoaa", sum := "62f21718210066d6db75c8c7dd34627cf34add4b7895f41579649a65d8a41120", func := "narthex/narthexlaw16.SenderKeeps", spec := "senderKeeps", inPlace := ["slices.overlaps[narthex/api.Range]"], unfollowed := true, recurses := true, apart := false }
def SenderKeepsSaid : Prop := senderKeepsRow.holds Try.pinned (OpenSpec.ofChange senderKeepsSpec)

/-- ITS FALSE NEIGHBOUR: 'it returns false'. Refute it at one input. -/
def senderKeepsWrong : ChangeSpec := { name := "senderKeeps", fn := fun _ => fun
  | [d] => { results := [.lit (.bool false)], args := [d] }
  | _ => none }
def SenderKeepsWrongFalsely : Prop := senderKeepsRow.holds Try.pinned (OpenSpec.ofChange senderKeepsWrong)

/-- 'narthexlaw16.SenderEnds': WHATEVER THE INPUT: true; the input reads as it did. -/
def senderEndsSpec : ChangeSpec := { name := "senderEnds", fn := fun _ => fun
  | [d1, d2, d3] => { results := [.lit (.bool true)], args := [d1, d2, d3] }
  | _ => none }
def senderEndsRow : OpenClaim := { program := "ytncfbaabhceeoaa", sum := "62f21718210066d6db75c8c7dd34627cf34add4b7895f41579649a65d8a41120", func := "narthex/narthexlaw16.SenderEnds", spec := "senderEnds", inPlace := ["slices.overlaps[narthex/api.Range]"], unfollowed := true, recurses := true, apart := false }
def SenderEndsSaid : Prop := senderEndsRow.holds Try.pinned (OpenSpec.ofChange senderEndsSpec)

/-- ITS FALSE NEIGHBOUR: 'it returns false'. Refute it at one input. -/
def senderEndsWrong : ChangeSpec := { name := "senderEnds", fn := fun _ => fun
  | [d1, d2, d3] => { results := [.lit (.bool false)], args := [d1, d2, d3] }
  | _ => none }
def SenderEndsWrongFalsely : Prop := senderEndsRow.holds Try.pinned (OpenSpec.ofChange senderEndsWrong)

/- THE SECOND FORM. 'bulk': how many values and letters a reading holds, each counted each time it is reached (what is shared counts as often as it is met; a slice's spare places count too). A statement '..UptoSaid' is the law's where the arguments, and the package variables that the reading takes, are together of bulk at most 1048576: NARROWER than '..Said'. Prove '..Said' where nothing that the law and all that it calls make is longer than what came in: it says more and counts as full. Else prove '..UptoSaid'. A law counts once. -/
mutual
def uptoBulk {H : Type} : DataW H → Nat
  | .lit (.string bytes) => bytes.length + 1
  | .lit _ => 1
  | .nil => 1
  | .ptr d => uptoBulk d + 1
  | .slice elems spare => uptoBulkAll elems + uptoBulkAll spare + 1
  | .agg parts => uptoBulkAll parts + 1
  | .iface _ d => uptoBulk d + 1
  | .map entries => uptoBulkEntries entries + 1
  | .held _ => 1
def uptoBulkAll {H : Type} : List (DataW H) → Nat
  | [] => 0
  | d :: r => uptoBulk d + uptoBulkAll r
def uptoBulkEntries {H : Type} : List (Lit × DataW H) → Nat
  | [] => 0
  | x :: r => uptoBulkEntry x + uptoBulkEntries r
def uptoBulkEntry {H : Type} : Lit × DataW H → Nat
  | (.string bytes, d) => bytes.length + uptoBulk d + 1
  | (_, d) => uptoBulk d + 1
 end
def uptoSmall : (H : Type) → List (DataW H) → Bool := fun _ ds => decide (uptoBulkAll ds ≤ 1048576)
def OpenSpec.upto (s : _root_.Go.ChangeSpec) : _root_.Go.OpenSpec := { _root_.Go.OpenSpec.ofChange s with cond := some uptoSmall }

/-- 'narthexlaw18.StreamsOpen', WHERE WHAT IT READS IS OF BULK AT MOST 1048576: true; the input reads as it did. -/
def streamsOpenUptoRow : OpenClaim := { program := "ytncfbaabhceeoaa", sum := "62f21718210066d6db75c8c7dd34627cf34add4b7895f41579649a65d8a41120", func := "narthex/narthexlaw18.StreamsOpen", spec := "streamsOpen", inPlace := ["slices.overlaps[narthex/api.Range]"], unfollowed := true, recurses := true, apart := false, narrowed := true }
def StreamsOpenUptoSaid : Prop := streamsOpenUptoRow.holds Try.pinned (OpenSpec.upto streamsOpenSpec)

/-- 'narthexlaw16.SenderKeeps', WHERE WHAT IT READS IS OF BULK AT MOST 1048576: true; the input reads as it did. -/
def senderKeepsUptoRow : OpenClaim := { program := "ytncfbaabhceeoaa", sum := "62f21718210066d6db75c8c7dd34627cf34add4b7895f41579649a65d8a41120", func := "narthex/narthexlaw16.SenderKeeps", spec := "senderKeeps", inPlace := ["slices.overlaps[narthex/api.Range]"], unfollowed := true, recurses := true, apart := false, narrowed := true }
def SenderKeepsUptoSaid : Prop := senderKeepsUptoRow.holds Try.pinned (OpenSpec.upto senderKeepsSpec)

/-- 'narthexlaw16.SenderEnds', WHERE WHAT IT READS IS OF BULK AT MOST 1048576: true; the input reads as it did. -/
def senderEndsUptoRow : OpenClaim := { program := "ytncfbaabhceeoaa", sum := "62f21718210066d6db75c8c7dd34627cf34add4b7895f41579649a65d8a41120", func := "narthex/narthexlaw16.SenderEnds", spec := "senderEnds", inPlace := ["slices.overlaps[narthex/api.Range]"], unfollowed := true, recurses := true, apart := false, narrowed := true }
def SenderEndsUptoSaid : Prop := senderEndsUptoRow.holds Try.pinned (OpenSpec.upto senderEndsSpec)

end Rows
end Go.Proofs.Ytncfbaabhceeoaa
