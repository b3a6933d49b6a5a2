/- DERIVED. A slice of ints that is only read. -/
import Derived.Test.YtnneoeimgbemfaaGreatQH3
set_option linter.all false
namespace Go.Proofs.YtnneoeimgbemfaaGreat
open Go.RowKit

def encN (n : Int) : List Value := [.int .i64 n]
theorem Vw.num {w : World} {B : Nat} {oa : Option Addr} {n cap : Nat} {xs : List Int} (h : Vw encN w B (.slice oa n cap) xs) {i : Nat} {x : Int} (hx : xs[i]? = some x) :
    ∃ b off, oa = some ⟨b, off, none⟩ ∧ b < B ∧ w.cell? ⟨b, off + i, none⟩ = some (.int .i64 x) := by
  obtain ⟨b, off, h1, h2, h3⟩ := h.el (k := 1) (fun _ => rfl) hx
  refine ⟨b, off, h1, h2, ?_⟩
  have := h3 0 (by omega)
  simpa [encN] using this
def encU (n : Nat) : List Value := [.int .u64 n]
theorem encU_len (n : Nat) : (encU n).length = 1 := rfl
theorem Vw.num64 {w : World} {B : Nat} {oa : Option Addr} {n cap : Nat} {xs : List Nat} (h : Vw encU w B (.slice oa n cap) xs) {i : Nat} {x : Nat} (hx : xs[i]? = some x) :
    ∃ b off, oa = some ⟨b, off, none⟩ ∧ b < B ∧ w.cell? ⟨b, off + i, none⟩ = some (.int .u64 x) := by
  obtain ⟨b, off, h1, h2, h3⟩ := h.el (k := 1) (fun _ => rfl) hx
  refine ⟨b, off, h1, h2, ?_⟩
  have := h3 0 (by omega)
  simpa [encU] using this
end Go.Proofs.YtnneoeimgbemfaaGreat
