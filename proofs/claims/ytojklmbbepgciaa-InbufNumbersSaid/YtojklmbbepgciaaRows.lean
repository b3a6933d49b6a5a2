/-
  No cell of these rows narrows 'for every input' (looked for: loops, veiled, ifaces, maps, wideKeys, modest, calm, conditions, laid).
  DERIVED. THE GIVEN ROWS OF THIS SEAT. 4 by the template 'for every input the law returns true; each argument reads behind the call as it read before'; 0 by the template 'total and deterministic' (their statements: YtojklmbbepgciaaTotals.lean).
  GIVEN WITH THE SEED: the statements are not yours to turn. If you find one false, say at which input.
  Laid BY PROGRAM, IN A SANDBOX (cutbox-rows.mjs): the forced cells as the released guide's own fill.sh prints them over the translation 7a12d6bddc24ed3e… (all of the seat's roots in one cut). By AI agents, Wed Nov 11 2026. No macro, syntax, notation, axiom, sorry.
-/
import Derived.Test.YtojklmbbepgciaaChecked
import GoSem.Claim
import GoSem.ClaimJoined
import GoSem.ClaimMapViews
import Derived.JoinedTies
import Derived.KernelRfl
namespace Go.Proofs.Ytojklmbbepgciaa
/- THE CELL 'sum', in the pinned program and in every row, IS THE sha256 OF THE DUMP (.gsa) THAT YtojklmbbepgciaaProg.lean LOADS. Nothing in Lean hashes anything: it is a label: what it is worth is what the hold of that sum in a sandbox is worth. -/
noncomputable def Try.pinned : Pinned := { name := "ytojklmbbepgciaa", sum := "7a12d6bddc24ed3eecc8d8ae9478f404c5b8d2f9ed5865344b4e359293516f8a", checked := Try.checked }
namespace Rows
def none {H : Type} : Left H := { results := [], args := [] }

/-- 'narthexlaw14.InbufOrder': WHATEVER THE INPUT: true; the input reads as it did. -/
def inbufOrderSpec : ChangeSpec := { name := "inbufOrder", fn := fun _ => fun
  | [d1, d2] => { results := [.lit (.bool true)], args := [d1, d2] }
  | _ => none }
def inbufOrderRow : OpenClaim := { program := "ytojklmbbepgciaa", sum := "7a12d6bddc24ed3eecc8d8ae9478f404c5b8d2f9ed5865344b4e359293516f8a", func := "narthex/narthexlaw14.InbufOrder", spec := "inbufOrder", inPlace := ["slices.overlaps[narthex/api.Range]"], unfollowed := true, recurses := true, apart := false }
def InbufOrderSaid : Prop := inbufOrderRow.holds Try.pinned (OpenSpec.ofChange inbufOrderSpec)

/-- ITS FALSE NEIGHBOUR: 'it returns false'. Refute it at one input. -/
def inbufOrderWrong : ChangeSpec := { name := "inbufOrder", fn := fun _ => fun
  | [d1, d2] => { results := [.lit (.bool false)], args := [d1, d2] }
  | _ => none }
def InbufOrderWrongFalsely : Prop := inbufOrderRow.holds Try.pinned (OpenSpec.ofChange inbufOrderWrong)

/-- 'narthexlaw14.InbufNumbers': WHATEVER THE INPUT: true; the input reads as it did. -/
def inbufNumbersSpec : ChangeSpec := { name := "inbufNumbers", fn := fun _ => fun
  | [] => { results := [.lit (.bool true)], args := [] }
  | _ => none }
def inbufNumbersRow : OpenClaim := { program := "ytojklmbbepgciaa", sum := "7a12d6bddc24ed3eecc8d8ae9478f404c5b8d2f9ed5865344b4e359293516f8a", func := "narthex/narthexlaw14.InbufNumbers", spec := "inbufNumbers", inPlace := ["slices.overlaps[narthex/api.Range]"], unfollowed := true, recurses := true, apart := false }
def InbufNumbersSaid : Prop := inbufNumbersRow.holds Try.pinned (OpenSpec.ofChange inbufNumbersSpec)

/-- ITS FALSE NEIGHBOUR: 'it returns false'. Refute it at one input. -/
def inbufNumbersWrong : ChangeSpec := { name := "inbufNumbers", fn := fun _ => fun
  | [] => { results := [.lit (.bool false)], args := [] }
  | _ => none }
def InbufNumbersWrongFalsely : Prop := inbufNumbersRow.holds Try.pinned (OpenSpec.ofChange inbufNumbersWrong)

/-- 'narthexlaw14.InbufPlays': WHATEVER THE INPUT: true; the input reads as it did. -/
def inbufPlaysSpec : ChangeSpec := { name := "inbufPlays", fn := fun _ => fun
  | [d] => { results := [.lit (.bool true)], args := [d] }
  | _ => none }
def inbufPlaysRow : OpenClaim := { program := "ytojklmbbepgciaa", sum := "7a12d6bddc24ed3eecc8d8ae9478f404c5b8d2f9ed5865344b4e359293516f8a", func := "narthex/narthexlaw14.InbufPlays", spec := "inbufPlays", inPlace := ["slices.overlaps[narthex/api.Range]"], unfollowed := true, recurses := true, apart := false }
def InbufPlaysSaid : Prop := inbufPlaysRow.holds Try.pinned (OpenSpec.ofChange inbufPlaysSpec)

/-- ITS FALSE NEIGHBOUR: 'it returns false'. Refute it at one input. -/
def inbufPlaysWrong : ChangeSpec := { name := "inbufPlays", fn := fun _ => fun
  | [d] => { results := [.lit (.bool false)], args := [d] }
  | _ => none }
def InbufPlaysWrongFalsely : Prop := inbufPlaysRow.holds Try.pinned (OpenSpec.ofChange inbufPlaysWrong)

/-- 'narthexlaw14.InbufFirst': WHATEVER THE INPUT: true; the input reads as it did. -/
def inbufFirstSpec : ChangeSpec := { name := "inbufFirst", fn := fun _ => fun
  | [d1, d2, d3, d4] => { results := [.lit (.bool true)], args := [d1, d2, d3, d4] }
  | _ => none }
def inbufFirstRow : OpenClaim := { program := "ytojklmbbepgciaa", sum := "7a12d6bddc24ed3eecc8d8ae9478f404c5b8d2f9ed5865344b4e359293516f8a", func := "narthex/narthexlaw14.InbufFirst", spec := "inbufFirst", inPlace := ["slices.overlaps[narthex/api.Range]"], unfollowed := true, recurses := true, apart := false }
def InbufFirstSaid : Prop := inbufFirstRow.holds Try.pinned (OpenSpec.ofChange inbufFirstSpec)

/-- ITS FALSE NEIGHBOUR: 'it returns false'. Refute it at one input. -/
def inbufFirstWrong : ChangeSpec := { name := "inbufFirst", fn := fun _ => fun
  | [d1, d2, d3, d4] => { results := [.lit (.bool false)], args := [d1, d2, d3, d4] }
  | _ => none }
def InbufFirstWrongFalsely : Prop := inbufFirstRow.holds Try.pinned (OpenSpec.ofChange inbufFirstWrong)

/- THE SECOND FORM. 'bulk': how many values and letters a reading holds, each counted each time it is reached (what is shared counts as often as it is met; a slice's spare places count too). A statement '..UptoSaid' is the law's where the arguments, and the package variables that the reading takes, are together of bulk at most 1048576: NARROWER than '..Said'. Prove '..Said' where nothing that the law and all that it calls make is longer than what came in: it says more and counts as full. Else prove '..UptoSaid'. A law counts once. -/
mutual
def uptoBulk {H : Type} : DataW H → Nat
  | .lit (.string bytes) => bytes.length + 1
  | .lit _ => 1
  | .nil => 1
  | .ptr d => uptoBulk d + 1
  | .slice elems spare => uptoBulkAll elems + uptoBulkAll spare + 1
  | .agg parts => uptoBulkAll parts + 1
  | .iface _ d => uptoBulk d + 1
  | .map entries => uptoBulkEntries entries + 1
  | .held _ => 1
def uptoBulkAll {H : Type} : List (DataW H) → Nat
  | [] => 0
  | d :: r => uptoBulk d + uptoBulkAll r
def uptoBulkEntries {H : Type} : List (Lit × DataW H) → Nat
  | [] => 0
  | x :: r => uptoBulkEntry x + uptoBulkEntries r
def uptoBulkEntry {H : Type} : Lit × DataW H → Nat
  | (.string bytes, d) => bytes.length + uptoBulk d + 1
  | (_, d) => uptoBulk d + 1
 end
def uptoSmall : (H : Type) → List (DataW H) → Bool := fun _ ds => decide (uptoBulkAll ds ≤ 1048576)
def OpenSpec.upto (s : _root_.Go.ChangeSpec) : _root_.Go.OpenSpec := { _root_.Go.OpenSpec.ofChange s with cond := some uptoSmall }

/-- 'narthexlaw14.InbufOrder', WHERE WHAT IT READS IS OF BULK AT MOST 1048576: true; the input reads as it did. -/
def inbufOrderUptoRow : OpenClaim := { program := "ytojklmbbepgciaa", sum := "7a12d6bddc24ed3eecc8d8ae9478f404c5b8d2f9ed5865344b4e359293516f8a", func := "narthex/narthexlaw14.InbufOrder", spec := "inbufOrder", inPlace := ["slices.overlaps[narthex/api.Range]"], unfollowed := true, recurses := true, apart := false, narrowed := true }
def InbufOrderUptoSaid : Prop := inbufOrderUptoRow.holds Try.pinned (OpenSpec.upto inbufOrderSpec)

/-- 'narthexlaw14.InbufNumbers', WHERE WHAT IT READS IS OF BULK AT MOST 1048576: true; the input reads as it did. -/
def inbufNumbersUptoRow : OpenClaim := { program := "ytojklmbbepgciaa", sum := "7a12d6bddc24ed3eecc8d8ae9478f404c5b8d2f9ed5865344b4e359293516f8a", func := "narthex/narthexlaw14.InbufNumbers", spec := "inbufNumbers", inPlace := ["slices.overlaps[narthex/api.Range]"], unfollowed := true, recurses := true, apart := false, narrowed := true }
def InbufNumbersUptoSaid : Prop := inbufNumbersUptoRow.holds Try.pinned (OpenSpec.upto inbufNumbersSpec)

/-- 'narthexlaw14.InbufPlays', WHERE WHAT IT READS IS OF BULK AT MOST 1048576: true; the input reads as it did. -/
def inbufPlaysUptoRow : OpenClaim := { program := "ytojklmbbepgciaa", sum := "7a12d6bddc24ed3eecc8d8ae9478f404c5b8d2f9ed5865344b4e359293516f8a", func := "narthex/narthexlaw14.InbufPlays", spec := "inbufPlays", inPlace := ["slices.overlaps[narthex/api.Range]"], unfollowed := true, recurses := true, apart := false, narrowed := true }
def InbufPlaysUptoSaid : Prop := inbufPlaysUptoRow.holds Try.pinned (OpenSpec.upto inbufPlaysSpec)

/-- 'narthexlaw14.InbufFirst', WHERE WHAT IT READS IS OF BULK AT MOST 1048576: true; the input reads as it did. -/
def inbufFirstUptoRow : OpenClaim := { program := "ytojklmbbepgciaa", sum := "7a12d6bddc24ed3eecc8d8ae9478f404c5b8d2f9ed5865344b4e359293516f8a", func := "narthex/narthexlaw14.InbufFirst", spec := "inbufFirst", inPlace := ["slices.overlaps[narthex/api.Range]"], unfollowed := true, recurses := true, apart := false, narrowed := true }
def InbufFirstUptoSaid : Prop := inbufFirstUptoRow.holds Try.pinned (OpenSpec.upto inbufFirstSpec)

end Rows
end Go.Proofs.Ytojklmbbepgciaa
