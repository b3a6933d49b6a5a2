/- The law ListenerNumbers of narthexlaw25 returns true. Conditions: none beyond the row's own. -/
import Derived.Test.YthknbcbkibbncaaGreatLi1
import Derived.Test.YthknbcbkibbncaaGreatLi44
import Derived.Test.YthknbcbkibbncaaGreatLi45
import Derived.Test.YthknbcbkibbncaaGreatLi46
import Derived.Test.YthknbcbkibbncaaGreatLi47
import Derived.Test.YthknbcbkibbncaaGreatLi48
set_option linter.all false
namespace Go.Proofs.YthknbcbkibbncaaGreat
open Go.ChangeShapes Go.WideShapes Go.ChangeAt Go.RowKit

theorem listenerNumbers_walk (w : World) : Calls Tryz.prog 4 #[] w fun e w' => e = .returned (.bool true) ∧ Below w.heap.size w w' :=
  Ev.Lv.closed lvLd listenerNumbers_ask w

theorem listenerNumbers_lifted (os : Os) (started : os.Started) (H : Type) (enc : TypeId × Value → H) :
    ReturnsInHanded {} Tryz.checked os 4 .any (Rows.listenerNumbersSpec.pre6 enc Tryz.prog Tryz.f4 [] false)
      (Rows.listenerNumbersSpec.post enc Tryz.prog Tryz.f4 false true false false) := by
  refine law_frame started enc Tryz.func4 (by kernel_rfl) rfl ?_ (by kernel_rfl) (by kernel_rfl) ?_
    (ChangeSpec.witness6 (enc := enc) (C := Tryz.checked) false ⟨#[], #[], []⟩ 8 (by kernel_rfl) (by kernel_rfl) (by kernel_rfl) (by kernel_rfl)) ?_
  · intro ds hl
    rw [Tryz.params4] at hl
    match ds, hl with
    | [], _ => rfl
  · rw [Tryz.params4]
    intro t ht
    cases ht
  · intro W base args ds ps hval hA hlt hfz hw
    rw [Tryz.params4] at hA hval hw
    obtain ⟨rfl, rfl, rfl⟩ := trodAll_none hA
    exact listenerNumbers_walk W

set_option maxRecDepth 1000000 in
theorem listenerNumbers_closed : joinedFacts Tryz.checked.prog 4 Tryz.f4 Rows.listenerNumbersSpec Rows.listenerNumbersRow = true := by
  unfold joinedFacts
  rw [listenerNumbers_f1, listenerNumbers_f2, listenerNumbers_f3, listenerNumbers_f4]
  kernel_rfl

theorem listenerNumbers_holds : Rows.ListenerNumbersSaid :=
  OpenClaim.holds_of_wide 4 Tryz.f4 rfl rfl rfl rfl rfl rfl rfl ⟨rfl, rfl, rfl, rfl, rfl⟩ rfl rfl rfl rfl rfl (by kernel_rfl) Tryz.func4 listenerNumbers_closed
    (of_decide_eq_true (by kernel_rfl)) (by unfold Func.isWrapper; first | (rw [if_pos (by decide +kernel)]; kernel_rfl) | (rw [if_neg (by decide +kernel)]; exact ⟨rfl, rfl⟩))
    (fun os started H enc _ => listenerNumbers_lifted os started H enc)
#print axioms listenerNumbers_holds
end Go.Proofs.YthknbcbkibbncaaGreat
