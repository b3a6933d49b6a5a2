/- DERIVED. Plain: of packets that all ask, one number is acknowledged. -/
import Derived.Test.YtacfbgnbjdckiaaSentKnown
namespace Go.Proofs.Ytacfbgnbjdckiaa
open Go.RowKit

def pkT (i : Nat) : Pk := ⟨i, i, 10, true, .slice none 0 0⟩
def lsT (k : Nat) : LS := ⟨(List.range k).map pkT, k, 0, false⟩
theorem lsT_succ (k : Nat) : (lsT k).puts (pkT k) = lsT (k + 1) := by
  unfold LS.puts lsT
  rw [List.range_succ, List.map_append]
  rfl
def chk (k j : Nat) : Bool :=
  ((((lsT k).got [(j, j + 1)]).map (·.n)) == [j]) && ((((lsT k).lost [(j, j + 1)] (j + 1)).map (·.n)) == List.range (j - 2)) && ((lsT k).acks [(j, j + 1)] (j + 1)).L.length == k - 1 - (j - 2) &&
    decide (sumZ ((lsT k).acks [(j, j + 1)] (j + 1)).L = ((10 * (k - 1 - (j - 2)) : Nat) : Int)) &&
    (match ((lsT k).acks [(j, j + 1)] (j + 1)).L[0]? with
      | none => k - 1 - (j - 2) == 0
      | some p => k - 1 - (j - 2) != 0 && (p.n == j - 2 || (j == j - 2 && p.n == j + 1))) &&
    (match ((lsT k).acks [(j, j + 1)] (j + 1)).L[((lsT k).acks [(j, j + 1)] (j + 1)).L.length - 1]? with
      | none => k - 1 - (j - 2) == 0
      | some p => decide (p.t = ((k - 1 : Nat) : Int)) || (j == k - 1 && decide (2 ≤ k) && decide (p.t = ((k - 2 : Nat) : Int))))
set_option maxRecDepth 100000 in
theorem chk_all : ∀ k < 61, ∀ j < k, chk k j = true := by decide +kernel
end Go.Proofs.Ytacfbgnbjdckiaa
