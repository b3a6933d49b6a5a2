/- DERIVED. A closed call whose answer the evaluator finds true. -/
import Derived.Test.YtijnjnncgkhabaaEvG
namespace Go.Proofs.Ytijnjnncgkhabaa
namespace Ev
open Go.RowKit

/-- empty memory -/
def S0 : S := ⟨false, fun _ => none, Id.zero, [], []⟩

theorem rel_empty (w : World) : Rel (fun _ => ⟨0, 0, 0⟩) (fun _ => False) w.heap.size w S0.h w :=
  ⟨⟨fun id k h => (nomatch h), fun i j h => absurd rfl h, fun id h => h.elim, Nat.le_refl _⟩, Below.refl _ _⟩

/-- A CLOSED CALL: the evaluator's answer is the model's, and nothing that was there is written. -/
theorem closed_ok {P : Program} {Y : Ty} {own : Nat → List AV → M AV} {X : Nat → Option PF} (hY : TyOk P Y) (hmix : P.follows .mixedOrders = true) (hown : ∀ k l, Loc (own k l)) (hX : TabOk P Y own X)
    {n f : Nat} {x : Bool} {s' : S} (h : (run own X n).fn f [] S0 = some (.b x, s')) (w : World) :
    Calls P f #[] w fun e w' => e = .returned (.bool x) ∧ Below w.heap.size w w' := by
  have h1 := (run_ok hY hmix hown hX n n (Nat.le_refl _) f [] S0 _ _ h (fun _ => ⟨0, 0, 0⟩) (fun _ => False) w.heap.size w w [] VRs.nil (rel_empty w) (fun _ _ _ h => h)).2
  refine h1.mono ?_
  rintro e w' ⟨β', D', V, rfl, hx, hr, hv⟩
  simp only [VR] at hv
  subst hv
  exact ⟨rfl, hr.bel⟩
end Ev
end Go.Proofs.Ytijnjnncgkhabaa
