/- DERIVED. The quick evaluator's operations, against the plain one's. -/
import Derived.Test.YtijnjnncgkhabaaEvK1
set_option linter.unusedVariables false
namespace Go.Proofs.Ytijnjnncgkhabaa
namespace Ev
namespace Kq
theorem Ref.eqv {α β : Type} {q : M α} {m : Ev.M α} {f : α → M β} {g : α → Ev.M β} (h : Ref Eq q m) (hf : ∀ a, Ref Eq (f a) (g a)) : Ref Eq (M.bind q f) (Ev.M.bind m g) := Ref.bind h fun a b e => e ▸ hf a
theorem Ref.ret {α : Type} (a : α) : Ref Eq (M.pure a) (Ev.M.pure a) := Ref.pure rfl
theorem Ref.opt {α : Type} (o : Option α) : Ref Eq (M.ofO o M.pure) (Ev.M.ofO o Ev.M.pure) := Ref.ofO fun a _ => Ref.ret a
theorem Ref.firstL (w n : Nat) (v : AV) : Ref Eq (Kq.firstL w n v) (Ev.firstL w n v) := by
  cases v <;> simp only [Kq.firstL, Ev.firstL] <;> first | exact Ref.ret _ | exact Ref.rd _ _ _ | exact Ref.ifB (Ref.ret _) | exact Ref.no
theorem Ref.grow (z : Bool) (w : Nat) (s : AV) (n : Nat) (new : List AV) : Ref Eq (Kq.grow z w s n new) (Ev.grow z w s n new) := by
  cases s <;> simp only [Kq.grow, Ev.grow] <;> first | exact Ref.no | skip
  · cases Nat.beq n 0
    · exact Ref.eqv (Ref.new _ _) fun _ => Ref.ret _
    · exact Ref.ret _
  · cases Nat.ble _ _
    · exact Ref.ifB (Ref.eqv (Ref.rd _ _ _) fun _ => Ref.eqv (Ref.new _ _) fun _ => Ref.ret _)
    · exact Ref.eqv (Ref.wr _ _ _) fun _ => Ref.ret _
  · refine Ref.ifB ?_
    cases Nat.ble _ _
    · exact Ref.ifB (Ref.eqv (Ref.over _ _ _ _) fun _ => Ref.ret _)
    · exact Ref.eqv (Ref.wr _ _ _) fun _ => Ref.ret _
theorem Ref.cpyF (w : Nat) (d x : AV) : Ref Eq (Kq.cpyF w d x) (Ev.cpyF w d x) := by
  refine Ref.ofO fun m _ => ?_
  cases d <;> first
    | exact Ref.no
    | exact Ref.ret _
    | exact Ref.eqv (Ref.firstL _ _ _) fun _ => Ref.eqv (Ref.wr _ _ _) fun _ => Ref.ret _
theorem Ref.clrF (cs : List AV) (d : AV) : Ref Eq (Kq.clrF cs d) (Ev.clrF cs d) := by
  cases d <;> first
    | exact Ref.no
    | exact Ref.ret _
    | exact Ref.eqv (Ref.wr _ _ _) fun _ => Ref.ret _
theorem Ref.eqP (i : Id) (p : Nat) (j : Id) (q : Nat) : Ref Eq (Kq.eqP i p j q) (Ev.eqP i p j q) := by
  unfold Kq.eqP Ev.eqP
  cases Nat.beq _ _
  · exact Ref.eqv (Ref.shared _) fun _ => Ref.eqv (Ref.shared _) fun _ => Ref.ifB (Ref.ret _)
  · exact Ref.ret _
theorem Ref.eqK (kd : Nat) (x y : AV) : Ref Eq (Kq.eqK kd x y) (Ev.eqK kd x y) := by
  unfold Kq.eqK Ev.eqK
  split
  · cases x <;> first | exact Ref.no | (cases y <;> first | exact Ref.no | exact Ref.ret _)
  · cases x <;> first | exact Ref.no | (cases y <;> first | exact Ref.no | exact Ref.ret _ | exact Ref.eqP _ _ _ _)
  · cases x <;> first | exact Ref.no | (cases y <;> first | exact Ref.no | exact Ref.ret _)
  · cases x <;> first | exact Ref.no | (cases y <;> first | exact Ref.no | exact Ref.ret _)
  · cases x <;> first | exact Ref.no | skip
    cases y <;> first | exact Ref.no | skip
    unfold Kq.eqG Ev.eqG
    dsimp only
    cases Nat.beq _ _
    · exact Ref.no
    · exact Ref.ofO fun _ _ => Ref.ret _
theorem Ref.strF (o : BinOp) (x : List Nat) (y : AV) : Ref Eq (Kq.strF o x y) (Ev.strF o x y) := by
  cases y <;> first | exact Ref.no | skip
  cases o <;> first | exact Ref.no | exact Ref.ret _ | exact Ref.ifB (Ref.ret _)
theorem Ref.intF (o : BinOp) (k : IntKind) (x : Int) (k' : IntKind) (y : Int) : Ref Eq (Kq.intF o k x k' y) (Ev.intF o k x k' y) := by
  cases o <;> first | exact Ref.ofO fun _ _ => Ref.ret _ | exact Ref.ifB (Ref.ofO fun _ _ => Ref.ret _)
theorem Ref.binF (o : BinOp) (x y : AV) : Ref Eq (Kq.binF o x y) (Ev.binF o x y) := by
  cases x <;> first | exact Ref.no | exact Ref.strF _ _ _ | skip
  cases y <;> first | exact Ref.no | exact Ref.intF _ _ _ _ _
theorem Ref.cvtL (l : List AV) : Ref Eq (Kq.cvtL l) (Ev.cvtL l) := Ref.ofO fun _ _ => Ref.ret _
theorem Ref.cvtF (x : AV) : Ref Eq (Kq.cvtF x) (Ev.cvtF x) := by
  cases x <;> first | exact Ref.no | exact Ref.ret _ | exact Ref.eqv (Ref.rd _ _ _) fun _ => Ref.cvtL _
theorem Ref.cvmF (x : AV) : Ref Eq (Kq.cvmF x) (Ev.cvmF x) := by
  cases x <;> first | exact Ref.no | exact Ref.eqv (Ref.shared _) fun _ => Ref.ifB (Ref.ret _)
theorem Ref.cvbF (x : AV) : Ref Eq (Kq.cvbF x) (Ev.cvbF x) := by
  cases x <;> first | exact Ref.no | exact Ref.ifB (Ref.eqv (Ref.new _ _) fun _ => Ref.ret _)
theorem Ref.mksF (z : Bool) (cs : List AV) (l c : AV) : Ref Eq (Kq.mksF z cs l c) (Ev.mksF z cs l c) :=
  Ref.ofO fun _ _ => Ref.ofO fun _ _ => Ref.ifB (Ref.eqv (Ref.new _ _) fun _ => Ref.ret _)
theorem Ref.ixaF (n w : Nat) (x i : AV) : Ref Eq (Kq.ixaF n w x i) (Ev.ixaF n w x i) := Ref.ofO fun _ _ => by
  cases x <;> first | exact Ref.no | exact Ref.ifB (Ref.ret _)
theorem Ref.ixsF (w : Nat) (x i : AV) : Ref Eq (Kq.ixsF w x i) (Ev.ixsF w x i) := Ref.ofO fun _ _ => by
  cases x <;> first | exact Ref.no | exact Ref.ifB (Ref.ret _)
theorem Ref.ldF (x : AV) : Ref Eq (Kq.ldF x) (Ev.ldF x) := by
  cases x <;> first | exact Ref.no | skip
  refine Ref.eqv (Ref.rd _ _ _) fun l => ?_
  split
  · exact Ref.ret _
  · exact Ref.no
theorem Ref.ldnF (m : Nat) (x : AV) : Ref Eq (Kq.ldnF m x) (Ev.ldnF m x) := by
  cases x <;> first | exact Ref.no | exact Ref.eqv (Ref.rd _ _ _) fun _ => Ref.ret _
theorem Ref.stF (m : Nat) (x v : AV) : Ref Eq (Kq.stF m x v) (Ev.stF m x v) := by
  cases x <;> first | exact Ref.no | exact Ref.ofO fun _ _ => Ref.ifB (Ref.eqv (Ref.wr _ _ _) fun _ => Ref.ret _)
theorem Ref.fadF (off : Nat) (x : AV) : Ref Eq (Kq.fadF off x) (Ev.fadF off x) := by
  cases x <;> first | exact Ref.no | exact Ref.ret _
theorem Ref.nilF (x : AV) : Ref Eq (Kq.nilF x) (Ev.nilF x) := by
  cases x <;> first | exact Ref.no | exact Ref.ret _
theorem Ref.extF (x : AV) (j : Nat) : Ref Eq (Kq.extF x j) (Ev.extF x j) := by
  cases x <;> first | exact Ref.no | exact Ref.ofO fun _ _ => Ref.ret _
theorem Ref.pickF (c x y : AV) : Ref Eq (Kq.pickF c x y) (Ev.pickF c x y) := by
  cases c <;> first | exact Ref.no | skip
  rename_i t
  cases t <;> exact Ref.ret _
theorem Ref.cviF (k : IntKind) (x : AV) : Ref Eq (Kq.cviF k x) (Ev.cviF k x) := by
  cases x <;> first | exact Ref.no | exact Ref.ret _
theorem Ref.cvsF (x : AV) : Ref Eq (Kq.cvsF x) (Ev.cvsF x) := by
  cases x <;> first | exact Ref.no | exact Ref.ret _
theorem Ref.newF (z : Bool) (l : List AV) : Ref Eq (Kq.newF z l) (Ev.newF z l) := Ref.eqv (Ref.new _ _) fun _ => Ref.ret _
theorem Ref.appF (z : Bool) (w : Nat) (s x : AV) : Ref Eq (Kq.appF z w s x) (Ev.appF z w s x) := Ref.ofO fun _ _ => Ref.ifB (Ref.eqv (Ref.firstL _ _ _) fun _ => Ref.grow _ _ _ _ _)
theorem Ref.apzF (z : Bool) (w : Nat) (cs : List AV) (s x : AV) : Ref Eq (Kq.apzF z w cs s x) (Ev.apzF z w cs s x) := Ref.ofO fun _ _ => Ref.ifB (Ref.grow _ _ _ _ _)
theorem Ref.bslF (z : Bool) (n : Nat) (l : List AV) : Ref Eq (Kq.bslF z n l) (Ev.bslF z n l) := Ref.eqv (Ref.new _ _) fun _ => Ref.ret _
theorem Ref.eqN (kd : Nat) (ng : Bool) (x y : AV) : Ref Eq (Kq.eqN kd ng x y) (Ev.eqN kd ng x y) := Ref.eqv (Ref.eqK _ _ _) fun _ => Ref.ret _
end Kq
end Ev
end Go.Proofs.Ytijnjnncgkhabaa
