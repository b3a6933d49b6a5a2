/-
  No cell of these rows narrows 'for every input' (looked for: loops, veiled, ifaces, maps, wideKeys, modest, calm, conditions, laid).
  DERIVED. THE GIVEN ROWS OF THIS SEAT. 4 by the template 'for every input the law returns true; each argument reads behind the call as it read before'; 0 by the template 'total and deterministic' (their statements: YtefanlmknoepdaaTotals.lean).
  GIVEN WITH THE SEED: the statements are not yours to turn. If you find one false, say at which input.
  Laid BY PROGRAM, IN A SANDBOX (cutbox-rows.mjs): the forced cells as the released guide's own fill.sh prints them over the translation a72701756cd938a5… (all of the seat's roots in one cut). By AI agents, Wed Nov 11 2026. No macro, syntax, notation, axiom, sorry.
-/
import Derived.Test.YtefanlmknoepdaaChecked
import GoSem.Claim
import GoSem.ClaimJoined
import GoSem.ClaimMapViews
import Derived.JoinedTies
import Derived.KernelRfl
namespace Go.Proofs.Ytefanlmknoepdaa
/- THE CELL 'sum', in the pinned program and in every row, IS THE sha256 OF THE DUMP (.gsa) THAT YtefanlmknoepdaaProg.lean LOADS. Nothing in Lean hashes anything: it is a label: what it is worth is what the hold of that sum in a sandbox is worth. -/
noncomputable def Try.pinned : Pinned := { name := "ytefanlmknoepdaa", sum := "a72701756cd938a566bffcf536d45488bb45948c77cc1cd10d7538d37bcb22cd", checked := Try.checked }
namespace Rows
def none {H : Type} : Left H := { results := [], args := [] }

/-- 'narthexlaw13.CongGrows': WHATEVER THE INPUT: true; the input reads as it did. -/
def congGrowsSpec : ChangeSpec := { name := "congGrows", fn := fun _ => fun
  | [d1, d2] => { results := [.lit (.bool true)], args := [d1, d2] }
  | _ => none }
def congGrowsRow : OpenClaim := { program := "ytefanlmknoepdaa", sum := "a72701756cd938a566bffcf536d45488bb45948c77cc1cd10d7538d37bcb22cd", func := "narthex/narthexlaw13.CongGrows", spec := "congGrows", apart := false }
def CongGrowsSaid : Prop := congGrowsRow.holds Try.pinned (OpenSpec.ofChange congGrowsSpec)

/-- ITS FALSE NEIGHBOUR: 'it returns false'. Refute it at one input. -/
def congGrowsWrong : ChangeSpec := { name := "congGrows", fn := fun _ => fun
  | [d1, d2] => { results := [.lit (.bool false)], args := [d1, d2] }
  | _ => none }
def CongGrowsWrongFalsely : Prop := congGrowsRow.holds Try.pinned (OpenSpec.ofChange congGrowsWrong)

/-- 'narthexlaw13.CongNumbers': WHATEVER THE INPUT: true; the input reads as it did. -/
def congNumbersSpec : ChangeSpec := { name := "congNumbers", fn := fun _ => fun
  | [] => { results := [.lit (.bool true)], args := [] }
  | _ => none }
def congNumbersRow : OpenClaim := { program := "ytefanlmknoepdaa", sum := "a72701756cd938a566bffcf536d45488bb45948c77cc1cd10d7538d37bcb22cd", func := "narthex/narthexlaw13.CongNumbers", spec := "congNumbers", apart := false }
def CongNumbersSaid : Prop := congNumbersRow.holds Try.pinned (OpenSpec.ofChange congNumbersSpec)

/-- ITS FALSE NEIGHBOUR: 'it returns false'. Refute it at one input. -/
def congNumbersWrong : ChangeSpec := { name := "congNumbers", fn := fun _ => fun
  | [] => { results := [.lit (.bool false)], args := [] }
  | _ => none }
def CongNumbersWrongFalsely : Prop := congNumbersRow.holds Try.pinned (OpenSpec.ofChange congNumbersWrong)

/-- 'narthexlaw13.CongTells': WHATEVER THE INPUT: true; the input reads as it did. -/
def congTellsSpec : ChangeSpec := { name := "congTells", fn := fun _ => fun
  | [d] => { results := [.lit (.bool true)], args := [d] }
  | _ => none }
def congTellsRow : OpenClaim := { program := "ytefanlmknoepdaa", sum := "a72701756cd938a566bffcf536d45488bb45948c77cc1cd10d7538d37bcb22cd", func := "narthex/narthexlaw13.CongTells", spec := "congTells", apart := false }
def CongTellsSaid : Prop := congTellsRow.holds Try.pinned (OpenSpec.ofChange congTellsSpec)

/-- ITS FALSE NEIGHBOUR: 'it returns false'. Refute it at one input. -/
def congTellsWrong : ChangeSpec := { name := "congTells", fn := fun _ => fun
  | [d] => { results := [.lit (.bool false)], args := [d] }
  | _ => none }
def CongTellsWrongFalsely : Prop := congTellsRow.holds Try.pinned (OpenSpec.ofChange congTellsWrong)

/-- 'narthexlaw13.CongBounds': WHATEVER THE INPUT: true; the input reads as it did. -/
def congBoundsSpec : ChangeSpec := { name := "congBounds", fn := fun _ => fun
  | [d] => { results := [.lit (.bool true)], args := [d] }
  | _ => none }
def congBoundsRow : OpenClaim := { program := "ytefanlmknoepdaa", sum := "a72701756cd938a566bffcf536d45488bb45948c77cc1cd10d7538d37bcb22cd", func := "narthex/narthexlaw13.CongBounds", spec := "congBounds", apart := false }
def CongBoundsSaid : Prop := congBoundsRow.holds Try.pinned (OpenSpec.ofChange congBoundsSpec)

/-- ITS FALSE NEIGHBOUR: 'it returns false'. Refute it at one input. -/
def congBoundsWrong : ChangeSpec := { name := "congBounds", fn := fun _ => fun
  | [d] => { results := [.lit (.bool false)], args := [d] }
  | _ => none }
def CongBoundsWrongFalsely : Prop := congBoundsRow.holds Try.pinned (OpenSpec.ofChange congBoundsWrong)

/- THE SECOND FORM. 'bulk': how many values and letters a reading holds, each counted each time it is reached (what is shared counts as often as it is met; a slice's spare places count too). A statement '..UptoSaid' is the law's where the arguments, and the package variables that the reading takes, are together of bulk at most 1048576: NARROWER than '..Said'. Prove '..Said' where nothing that the law and all that it calls make is longer than what came in: it says more and counts as full. Else prove '..UptoSaid'. A law counts once. -/
mutual
def uptoBulk {H : Type} : DataW H → Nat
  | .lit (.string bytes) => bytes.length + 1
  | .lit _ => 1
  | .nil => 1
  | .ptr d => uptoBulk d + 1
  | .slice elems spare => uptoBulkAll elems + uptoBulkAll spare + 1
  | .agg parts => uptoBulkAll parts + 1
  | .iface _ d => uptoBulk d + 1
  | .map entries => uptoBulkEntries entries + 1
  | .held _ => 1
def uptoBulkAll {H : Type} : List (DataW H) → Nat
  | [] => 0
  | d :: r => uptoBulk d + uptoBulkAll r
def uptoBulkEntries {H : Type} : List (Lit × DataW H) → Nat
  | [] => 0
  | x :: r => uptoBulkEntry x + uptoBulkEntries r
def uptoBulkEntry {H : Type} : Lit × DataW H → Nat
  | (.string bytes, d) => bytes.length + uptoBulk d + 1
  | (_, d) => uptoBulk d + 1
 end
def uptoSmall : (H : Type) → List (DataW H) → Bool := fun _ ds => decide (uptoBulkAll ds ≤ 1048576)
def OpenSpec.upto (s : _root_.Go.ChangeSpec) : _root_.Go.OpenSpec := { _root_.Go.OpenSpec.ofChange s with cond := some uptoSmall }

/-- 'narthexlaw13.CongGrows', WHERE WHAT IT READS IS OF BULK AT MOST 1048576: true; the input reads as it did. -/
def congGrowsUptoRow : OpenClaim := { program := "ytefanlmknoepdaa", sum := "a72701756cd938a566bffcf536d45488bb45948c77cc1cd10d7538d37bcb22cd", func := "narthex/narthexlaw13.CongGrows", spec := "congGrows", apart := false, narrowed := true }
def CongGrowsUptoSaid : Prop := congGrowsUptoRow.holds Try.pinned (OpenSpec.upto congGrowsSpec)

/-- 'narthexlaw13.CongNumbers', WHERE WHAT IT READS IS OF BULK AT MOST 1048576: true; the input reads as it did. -/
def congNumbersUptoRow : OpenClaim := { program := "ytefanlmknoepdaa", sum := "a72701756cd938a566bffcf536d45488bb45948c77cc1cd10d7538d37bcb22cd", func := "narthex/narthexlaw13.CongNumbers", spec := "congNumbers", apart := false, narrowed := true }
def CongNumbersUptoSaid : Prop := congNumbersUptoRow.holds Try.pinned (OpenSpec.upto congNumbersSpec)

/-- 'narthexlaw13.CongTells', WHERE WHAT IT READS IS OF BULK AT MOST 1048576: true; the input reads as it did. -/
def congTellsUptoRow : OpenClaim := { program := "ytefanlmknoepdaa", sum := "a72701756cd938a566bffcf536d45488bb45948c77cc1cd10d7538d37bcb22cd", func := "narthex/narthexlaw13.CongTells", spec := "congTells", apart := false, narrowed := true }
def CongTellsUptoSaid : Prop := congTellsUptoRow.holds Try.pinned (OpenSpec.upto congTellsSpec)

/-- 'narthexlaw13.CongBounds', WHERE WHAT IT READS IS OF BULK AT MOST 1048576: true; the input reads as it did. -/
def congBoundsUptoRow : OpenClaim := { program := "ytefanlmknoepdaa", sum := "a72701756cd938a566bffcf536d45488bb45948c77cc1cd10d7538d37bcb22cd", func := "narthex/narthexlaw13.CongBounds", spec := "congBounds", apart := false, narrowed := true }
def CongBoundsUptoSaid : Prop := congBoundsUptoRow.holds Try.pinned (OpenSpec.upto congBoundsSpec)

end Rows
end Go.Proofs.Ytefanlmknoepdaa
