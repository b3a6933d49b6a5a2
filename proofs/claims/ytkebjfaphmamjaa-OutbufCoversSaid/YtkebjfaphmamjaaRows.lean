/-
  No cell of these rows narrows 'for every input' (looked for: loops, veiled, ifaces, maps, wideKeys, modest, calm, conditions, laid).
  DERIVED. THE GIVEN ROWS OF THIS SEAT. 3 by the template 'for every input the law returns true; each argument reads behind the call as it read before'; 0 by the template 'total and deterministic' (their statements: YtkebjfaphmamjaaTotals.lean).
  GIVEN WITH THE SEED: the statements are not yours to turn. If you find one false, say at which input.
  Laid BY PROGRAM, IN A SANDBOX (cutbox-rows.mjs): the forced cells as the released guide's own fill.sh prints them over the translation e7cef17ec0cb5d17… (all of the seat's roots in one cut). By AI agents, Wed Nov 11 2026. No macro, syntax, notation, axiom, sorry.
-/
import Derived.Test.YtkebjfaphmamjaaChecked
import GoSem.Claim
import GoSem.ClaimJoined
import GoSem.ClaimMapViews
import Derived.JoinedTies
import Derived.KernelRfl
namespace Go.Proofs.Ytkebjfaphmamjaa
/- THE CELL 'sum', in the pinned program and in every row, IS THE sha256 OF THE DUMP (.gsa) THAT YtkebjfaphmamjaaProg.lean LOADS. Nothing in Lean hashes anything: it is a label: what it is worth is what the hold of that sum in a sandbox is worth. -/
noncomputable def Try.pinned : Pinned := { name := "ytkebjfaphmamjaa", sum := "e7cef17ec0cb5d1733f2f878ca9e912435e8030c6ef5d4cab113d60da46dacdd", checked := Try.checked }
namespace Rows
def none {H : Type} : Left H := { results := [], args := [] }

/-- 'narthexlaw15.OutbufRoom': WHATEVER THE INPUT: true; the input reads as it did. -/
def outbufRoomSpec : ChangeSpec := { name := "outbufRoom", fn := fun _ => fun
  | [d1, d2] => { results := [.lit (.bool true)], args := [d1, d2] }
  | _ => none }
def outbufRoomRow : OpenClaim := { program := "ytkebjfaphmamjaa", sum := "e7cef17ec0cb5d1733f2f878ca9e912435e8030c6ef5d4cab113d60da46dacdd", func := "narthex/narthexlaw15.OutbufRoom", spec := "outbufRoom", inPlace := ["slices.overlaps[narthex/api.Range]"], unfollowed := true, recurses := true, apart := false }
def OutbufRoomSaid : Prop := outbufRoomRow.holds Try.pinned (OpenSpec.ofChange outbufRoomSpec)

/-- ITS FALSE NEIGHBOUR: 'it returns false'. Refute it at one input. -/
def outbufRoomWrong : ChangeSpec := { name := "outbufRoom", fn := fun _ => fun
  | [d1, d2] => { results := [.lit (.bool false)], args := [d1, d2] }
  | _ => none }
def OutbufRoomWrongFalsely : Prop := outbufRoomRow.holds Try.pinned (OpenSpec.ofChange outbufRoomWrong)

/-- 'narthexlaw15.OutbufNumbers': WHATEVER THE INPUT: true; the input reads as it did. -/
def outbufNumbersSpec : ChangeSpec := { name := "outbufNumbers", fn := fun _ => fun
  | [] => { results := [.lit (.bool true)], args := [] }
  | _ => none }
def outbufNumbersRow : OpenClaim := { program := "ytkebjfaphmamjaa", sum := "e7cef17ec0cb5d1733f2f878ca9e912435e8030c6ef5d4cab113d60da46dacdd", func := "narthex/narthexlaw15.OutbufNumbers", spec := "outbufNumbers", inPlace := ["slices.overlaps[narthex/api.Range]"], unfollowed := true, recurses := true, apart := false }
def OutbufNumbersSaid : Prop := outbufNumbersRow.holds Try.pinned (OpenSpec.ofChange outbufNumbersSpec)

/-- ITS FALSE NEIGHBOUR: 'it returns false'. Refute it at one input. -/
def outbufNumbersWrong : ChangeSpec := { name := "outbufNumbers", fn := fun _ => fun
  | [] => { results := [.lit (.bool false)], args := [] }
  | _ => none }
def OutbufNumbersWrongFalsely : Prop := outbufNumbersRow.holds Try.pinned (OpenSpec.ofChange outbufNumbersWrong)

/-- 'narthexlaw15.OutbufCovers': WHATEVER THE INPUT: true; the input reads as it did. -/
def outbufCoversSpec : ChangeSpec := { name := "outbufCovers", fn := fun _ => fun
  | [d1, d2, d3] => { results := [.lit (.bool true)], args := [d1, d2, d3] }
  | _ => none }
def outbufCoversRow : OpenClaim := { program := "ytkebjfaphmamjaa", sum := "e7cef17ec0cb5d1733f2f878ca9e912435e8030c6ef5d4cab113d60da46dacdd", func := "narthex/narthexlaw15.OutbufCovers", spec := "outbufCovers", inPlace := ["slices.overlaps[narthex/api.Range]"], unfollowed := true, recurses := true, apart := false }
def OutbufCoversSaid : Prop := outbufCoversRow.holds Try.pinned (OpenSpec.ofChange outbufCoversSpec)

/-- ITS FALSE NEIGHBOUR: 'it returns false'. Refute it at one input. -/
def outbufCoversWrong : ChangeSpec := { name := "outbufCovers", fn := fun _ => fun
  | [d1, d2, d3] => { results := [.lit (.bool false)], args := [d1, d2, d3] }
  | _ => none }
def OutbufCoversWrongFalsely : Prop := outbufCoversRow.holds Try.pinned (OpenSpec.ofChange outbufCoversWrong)

/- THE SECOND FORM. 'bulk': how many values and letters a reading holds, each counted each time it is reached (what is shared counts as often as it is met; a slice's spare places count too). A statement '..UptoSaid' is the law's where the arguments, and the package variables that the reading takes, are together of bulk at most 1048576: NARROWER than '..Said'. Prove '..Said' where nothing that the law and all that it calls make is longer than what came in: it says more and counts as full. Else prove '..UptoSaid'. A law counts once. -/
mutual
def uptoBulk {H : Type} : DataW H → Nat
  | .lit (.string bytes) => bytes.length + 1
  | .lit _ => 1
  | .nil => 1
  | .ptr d => uptoBulk d + 1
  | .slice elems spare => uptoBulkAll elems + uptoBulkAll spare + 1
  | .agg parts => uptoBulkAll parts + 1
  | .iface _ d => uptoBulk d + 1
  | .map entries => uptoBulkEntries entries + 1
  | .held _ => 1
def uptoBulkAll {H : Type} : List (DataW H) → Nat
  | [] => 0
  | d :: r => uptoBulk d + uptoBulkAll r
def uptoBulkEntries {H : Type} : List (Lit × DataW H) → Nat
  | [] => 0
  | x :: r => uptoBulkEntry x + uptoBulkEntries r
def uptoBulkEntry {H : Type} : Lit × DataW H → Nat
  | (.string bytes, d) => bytes.length + uptoBulk d + 1
  | (_, d) => uptoBulk d + 1
 end
def uptoSmall : (H : Type) → List (DataW H) → Bool := fun _ ds => decide (uptoBulkAll ds ≤ 1048576)
def OpenSpec.upto (s : _root_.Go.ChangeSpec) : _root_.Go.OpenSpec := { _root_.Go.OpenSpec.ofChange s with cond := some uptoSmall }

/-- 'narthexlaw15.OutbufRoom', WHERE WHAT IT READS IS OF BULK AT MOST 1048576: true; the input reads as it did. -/
def outbufRoomUptoRow : OpenClaim := { program := "ytkebjfaphmamjaa", sum := "e7cef17ec0cb5d1733f2f878ca9e912435e8030c6ef5d4cab113d60da46dacdd", func := "narthex/narthexlaw15.OutbufRoom", spec := "outbufRoom", inPlace := ["slices.overlaps[narthex/api.Range]"], unfollowed := true, recurses := true, apart := false, narrowed := true }
def OutbufRoomUptoSaid : Prop := outbufRoomUptoRow.holds Try.pinned (OpenSpec.upto outbufRoomSpec)

/-- 'narthexlaw15.OutbufNumbers', WHERE WHAT IT READS IS OF BULK AT MOST 1048576: true; the input reads as it did. -/
def outbufNumbersUptoRow : OpenClaim := { program := "ytkebjfaphmamjaa", sum := "e7cef17ec0cb5d1733f2f878ca9e912435e8030c6ef5d4cab113d60da46dacdd", func := "narthex/narthexlaw15.OutbufNumbers", spec := "outbufNumbers", inPlace := ["slices.overlaps[narthex/api.Range]"], unfollowed := true, recurses := true, apart := false, narrowed := true }
def OutbufNumbersUptoSaid : Prop := outbufNumbersUptoRow.holds Try.pinned (OpenSpec.upto outbufNumbersSpec)

/-- 'narthexlaw15.OutbufCovers', WHERE WHAT IT READS IS OF BULK AT MOST 1048576: true; the input reads as it did. -/
def outbufCoversUptoRow : OpenClaim := { program := "ytkebjfaphmamjaa", sum := "e7cef17ec0cb5d1733f2f878ca9e912435e8030c6ef5d4cab113d60da46dacdd", func := "narthex/narthexlaw15.OutbufCovers", spec := "outbufCovers", inPlace := ["slices.overlaps[narthex/api.Range]"], unfollowed := true, recurses := true, apart := false, narrowed := true }
def OutbufCoversUptoSaid : Prop := outbufCoversUptoRow.holds Try.pinned (OpenSpec.upto outbufCoversSpec)

end Rows
end Go.Proofs.Ytkebjfaphmamjaa
