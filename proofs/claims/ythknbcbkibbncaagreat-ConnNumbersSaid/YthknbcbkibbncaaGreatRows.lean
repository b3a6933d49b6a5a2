/-
  No cell of these rows narrows 'for every input' (looked for: loops, veiled, ifaces, maps, wideKeys, modest, calm, conditions, laid).
  DERIVED. THE GIVEN ROWS OF THIS SEAT. 5 by the template 'for every input the law returns true; each argument reads behind the call as it read before'; 0 by the template 'total and deterministic' (their statements: YthknbcbkibbncaaGreatTotals.lean).
  GIVEN WITH THE SEED: the statements are not yours to turn. If you find one false, say at which input.
  Laid BY PROGRAM, IN A SANDBOX (cutbox-rows.mjs): the forced cells as the released guide's own fill.sh prints them over the translation eff23399b69060b4… (all of the seat's roots in one cut). By AI agents, Wed Nov 11 2026. No macro, syntax, notation, axiom, sorry.
-/
import Derived.Test.YthknbcbkibbncaaGreatChecked
import GoSem.Claim
import GoSem.ClaimJoined
import GoSem.ClaimMapViews
import Derived.JoinedTies
import Derived.KernelRfl
namespace Go.Proofs.YthknbcbkibbncaaGreat
/- THE CELL 'sum', in the pinned program and in every row, IS THE sha256 OF THE DUMP (.gsa) THAT YthknbcbkibbncaaGreatProg.lean LOADS. Nothing in Lean hashes anything: it is a label: what it is worth is what the hold of that sum in a sandbox is worth. -/
noncomputable def Tryz.pinned : Pinned := { name := "ythknbcbkibbncaagreat", sum := "eff23399b69060b4c012720671071e23edb20d0dcfb0f51fbdd35437e7d5bc68", checked := Tryz.checked }
namespace Rows
def none {H : Type} : Left H := { results := [], args := [] }

/-- 'narthexlaw22.ConnNumbers': WHATEVER THE INPUT: true; the input reads as it did. -/
def connNumbersSpec : ChangeSpec := { name := "connNumbers", fn := fun _ => fun
  | [] => { results := [.lit (.bool true)], args := [] }
  | _ => none }
def connNumbersRow : OpenClaim := { program := "ythknbcbkibbncaagreat", sum := "eff23399b69060b4c012720671071e23edb20d0dcfb0f51fbdd35437e7d5bc68", func := "narthex/narthexlaw22.ConnNumbers", spec := "connNumbers", inPlace := ["slices.overlaps[narthex/api.Range]"], unfollowed := true, recurses := true, plainKeys := false, apart := false }
def ConnNumbersSaid : Prop := connNumbersRow.holds Tryz.pinned (OpenSpec.ofChange connNumbersSpec)

/-- ITS FALSE NEIGHBOUR: 'it returns false'. Refute it at one input. -/
def connNumbersWrong : ChangeSpec := { name := "connNumbers", fn := fun _ => fun
  | [] => { results := [.lit (.bool false)], args := [] }
  | _ => none }
def ConnNumbersWrongFalsely : Prop := connNumbersRow.holds Tryz.pinned (OpenSpec.ofChange connNumbersWrong)

/-- 'narthexlaw25.ListenerNumbers': WHATEVER THE INPUT: true; the input reads as it did. -/
def listenerNumbersSpec : ChangeSpec := { name := "listenerNumbers", fn := fun _ => fun
  | [] => { results := [.lit (.bool true)], args := [] }
  | _ => none }
def listenerNumbersRow : OpenClaim := { program := "ythknbcbkibbncaagreat", sum := "eff23399b69060b4c012720671071e23edb20d0dcfb0f51fbdd35437e7d5bc68", func := "narthex/narthexlaw25.ListenerNumbers", spec := "listenerNumbers", inPlace := ["slices.overlaps[narthex/api.Range]"], unfollowed := true, recurses := true, plainKeys := false, apart := false }
def ListenerNumbersSaid : Prop := listenerNumbersRow.holds Tryz.pinned (OpenSpec.ofChange listenerNumbersSpec)

/-- ITS FALSE NEIGHBOUR: 'it returns false'. Refute it at one input. -/
def listenerNumbersWrong : ChangeSpec := { name := "listenerNumbers", fn := fun _ => fun
  | [] => { results := [.lit (.bool false)], args := [] }
  | _ => none }
def ListenerNumbersWrongFalsely : Prop := listenerNumbersRow.holds Tryz.pinned (OpenSpec.ofChange listenerNumbersWrong)

/-- 'narthexlaw26.WorldNumbers': WHATEVER THE INPUT: true; the input reads as it did. -/
def worldNumbersSpec : ChangeSpec := { name := "worldNumbers", fn := fun _ => fun
  | [] => { results := [.lit (.bool true)], args := [] }
  | _ => none }
def worldNumbersRow : OpenClaim := { program := "ythknbcbkibbncaagreat", sum := "eff23399b69060b4c012720671071e23edb20d0dcfb0f51fbdd35437e7d5bc68", func := "narthex/narthexlaw26.WorldNumbers", spec := "worldNumbers", inPlace := ["slices.overlaps[narthex/api.Range]"], unfollowed := true, recurses := true, plainKeys := false, apart := false }
def WorldNumbersSaid : Prop := worldNumbersRow.holds Tryz.pinned (OpenSpec.ofChange worldNumbersSpec)

/-- ITS FALSE NEIGHBOUR: 'it returns false'. Refute it at one input. -/
def worldNumbersWrong : ChangeSpec := { name := "worldNumbers", fn := fun _ => fun
  | [] => { results := [.lit (.bool false)], args := [] }
  | _ => none }
def WorldNumbersWrongFalsely : Prop := worldNumbersRow.holds Tryz.pinned (OpenSpec.ofChange worldNumbersWrong)

/-- 'narthexlaw27.FairNumbers': WHATEVER THE INPUT: true; the input reads as it did. -/
def fairNumbersSpec : ChangeSpec := { name := "fairNumbers", fn := fun _ => fun
  | [] => { results := [.lit (.bool true)], args := [] }
  | _ => none }
def fairNumbersRow : OpenClaim := { program := "ythknbcbkibbncaagreat", sum := "eff23399b69060b4c012720671071e23edb20d0dcfb0f51fbdd35437e7d5bc68", func := "narthex/narthexlaw27.FairNumbers", spec := "fairNumbers", inPlace := ["slices.overlaps[narthex/api.Range]"], unfollowed := true, recurses := true, plainKeys := false, apart := false }
def FairNumbersSaid : Prop := fairNumbersRow.holds Tryz.pinned (OpenSpec.ofChange fairNumbersSpec)

/-- ITS FALSE NEIGHBOUR: 'it returns false'. Refute it at one input. -/
def fairNumbersWrong : ChangeSpec := { name := "fairNumbers", fn := fun _ => fun
  | [] => { results := [.lit (.bool false)], args := [] }
  | _ => none }
def FairNumbersWrongFalsely : Prop := fairNumbersRow.holds Tryz.pinned (OpenSpec.ofChange fairNumbersWrong)

/-- 'narthexlaw28.ShellNumbers': WHATEVER THE INPUT: true; the input reads as it did. -/
def shellNumbersSpec : ChangeSpec := { name := "shellNumbers", fn := fun _ => fun
  | [] => { results := [.lit (.bool true)], args := [] }
  | _ => none }
def shellNumbersRow : OpenClaim := { program := "ythknbcbkibbncaagreat", sum := "eff23399b69060b4c012720671071e23edb20d0dcfb0f51fbdd35437e7d5bc68", func := "narthex/narthexlaw28.ShellNumbers", spec := "shellNumbers", inPlace := ["slices.overlaps[narthex/api.Range]"], unfollowed := true, recurses := true, plainKeys := false, apart := false }
def ShellNumbersSaid : Prop := shellNumbersRow.holds Tryz.pinned (OpenSpec.ofChange shellNumbersSpec)

/-- ITS FALSE NEIGHBOUR: 'it returns false'. Refute it at one input. -/
def shellNumbersWrong : ChangeSpec := { name := "shellNumbers", fn := fun _ => fun
  | [] => { results := [.lit (.bool false)], args := [] }
  | _ => none }
def ShellNumbersWrongFalsely : Prop := shellNumbersRow.holds Tryz.pinned (OpenSpec.ofChange shellNumbersWrong)

/- THE SECOND FORM. 'bulk': how many values and letters a reading holds, each counted each time it is reached (what is shared counts as often as it is met; a slice's spare places count too). A statement '..UptoSaid' is the law's where the arguments, and the package variables that the reading takes, are together of bulk at most 1048576: NARROWER than '..Said'. Prove '..Said' where nothing that the law and all that it calls make is longer than what came in: it says more and counts as full. Else prove '..UptoSaid'. A law counts once. -/
mutual
def uptoBulk {H : Type} : DataW H → Nat
  | .lit (.string bytes) => bytes.length + 1
  | .lit _ => 1
  | .nil => 1
  | .ptr d => uptoBulk d + 1
  | .slice elems spare => uptoBulkAll elems + uptoBulkAll spare + 1
  | .agg parts => uptoBulkAll parts + 1
  | .iface _ d => uptoBulk d + 1
  | .map entries => uptoBulkEntries entries + 1
  | .held _ => 1
def uptoBulkAll {H : Type} : List (DataW H) → Nat
  | [] => 0
  | d :: r => uptoBulk d + uptoBulkAll r
def uptoBulkEntries {H : Type} : List (Lit × DataW H) → Nat
  | [] => 0
  | x :: r => uptoBulkEntry x + uptoBulkEntries r
def uptoBulkEntry {H : Type} : Lit × DataW H → Nat
  | (.string bytes, d) => bytes.length + uptoBulk d + 1
  | (_, d) => uptoBulk d + 1
 end
def uptoSmall : (H : Type) → List (DataW H) → Bool := fun _ ds => decide (uptoBulkAll ds ≤ 1048576)
def OpenSpec.upto (s : _root_.Go.ChangeSpec) : _root_.Go.OpenSpec := { _root_.Go.OpenSpec.ofChange s with cond := some uptoSmall }

/-- 'narthexlaw22.ConnNumbers', WHERE WHAT IT READS IS OF BULK AT MOST 1048576: true; the input reads as it did. -/
def connNumbersUptoRow : OpenClaim := { program := "ythknbcbkibbncaagreat", sum := "eff23399b69060b4c012720671071e23edb20d0dcfb0f51fbdd35437e7d5bc68", func := "narthex/narthexlaw22.ConnNumbers", spec := "connNumbers", inPlace := ["slices.overlaps[narthex/api.Range]"], unfollowed := true, recurses := true, plainKeys := false, apart := false, narrowed := true }
def ConnNumbersUptoSaid : Prop := connNumbersUptoRow.holds Tryz.pinned (OpenSpec.upto connNumbersSpec)

/-- 'narthexlaw25.ListenerNumbers', WHERE WHAT IT READS IS OF BULK AT MOST 1048576: true; the input reads as it did. -/
def listenerNumbersUptoRow : OpenClaim := { program := "ythknbcbkibbncaagreat", sum := "eff23399b69060b4c012720671071e23edb20d0dcfb0f51fbdd35437e7d5bc68", func := "narthex/narthexlaw25.ListenerNumbers", spec := "listenerNumbers", inPlace := ["slices.overlaps[narthex/api.Range]"], unfollowed := true, recurses := true, plainKeys := false, apart := false, narrowed := true }
def ListenerNumbersUptoSaid : Prop := listenerNumbersUptoRow.holds Tryz.pinned (OpenSpec.upto listenerNumbersSpec)

/-- 'narthexlaw26.WorldNumbers', WHERE WHAT IT READS IS OF BULK AT MOST 1048576: true; the input reads as it did. -/
def worldNumbersUptoRow : OpenClaim := { program := "ythknbcbkibbncaagreat", sum := "eff23399b69060b4c012720671071e23edb20d0dcfb0f51fbdd35437e7d5bc68", func := "narthex/narthexlaw26.WorldNumbers", spec := "worldNumbers", inPlace := ["slices.overlaps[narthex/api.Range]"], unfollowed := true, recurses := true, plainKeys := false, apart := false, narrowed := true }
def WorldNumbersUptoSaid : Prop := worldNumbersUptoRow.holds Tryz.pinned (OpenSpec.upto worldNumbersSpec)

/-- 'narthexlaw27.FairNumbers', WHERE WHAT IT READS IS OF BULK AT MOST 1048576: true; the input reads as it did. -/
def fairNumbersUptoRow : OpenClaim := { program := "ythknbcbkibbncaagreat", sum := "eff23399b69060b4c012720671071e23edb20d0dcfb0f51fbdd35437e7d5bc68", func := "narthex/narthexlaw27.FairNumbers", spec := "fairNumbers", inPlace := ["slices.overlaps[narthex/api.Range]"], unfollowed := true, recurses := true, plainKeys := false, apart := false, narrowed := true }
def FairNumbersUptoSaid : Prop := fairNumbersUptoRow.holds Tryz.pinned (OpenSpec.upto fairNumbersSpec)

/-- 'narthexlaw28.ShellNumbers', WHERE WHAT IT READS IS OF BULK AT MOST 1048576: true; the input reads as it did. -/
def shellNumbersUptoRow : OpenClaim := { program := "ythknbcbkibbncaagreat", sum := "eff23399b69060b4c012720671071e23edb20d0dcfb0f51fbdd35437e7d5bc68", func := "narthex/narthexlaw28.ShellNumbers", spec := "shellNumbers", inPlace := ["slices.overlaps[narthex/api.Range]"], unfollowed := true, recurses := true, plainKeys := false, apart := false, narrowed := true }
def ShellNumbersUptoSaid : Prop := shellNumbersUptoRow.holds Tryz.pinned (OpenSpec.upto shellNumbersSpec)

end Rows
end Go.Proofs.YthknbcbkibbncaaGreat
