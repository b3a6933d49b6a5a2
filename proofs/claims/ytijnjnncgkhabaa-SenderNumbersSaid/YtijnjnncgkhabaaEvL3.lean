/- DERIVED. What an evaluation reads and writes is all that it hangs on and all that it turns: operations, rows, code, functions. -/
import Derived.Test.YtijnjnncgkhabaaEvL2
namespace Go.Proofs.Ytijnjnncgkhabaa
namespace Ev

theorem Loc.firstL (w n : Nat) (v : AV) : Loc (firstL w n v) := by
  cases v <;> simp only [Ev.firstL] <;> first | exact Loc.pure _ | exact Loc.rd _ _ _ | exact Loc.ifB (Loc.pure _) | exact Loc.no
theorem Loc.grow (z : Bool) (w : Nat) (s : AV) (n : Nat) (new : List AV) : Loc (grow z w s n new) := by
  cases s <;> simp only [Ev.grow] <;> first | exact Loc.no | skip
  · cases Nat.beq n 0
    · exact Loc.bind (Loc.new _ _) fun _ => Loc.pure _
    · exact Loc.pure _
  · cases Nat.ble _ _
    · exact Loc.ifB (Loc.bind (Loc.rd _ _ _) fun _ => Loc.bind (Loc.new _ _) fun _ => Loc.pure _)
    · exact Loc.bind (Loc.wr _ _ _) fun _ => Loc.pure _
  · refine Loc.ifB ?_
    cases Nat.ble _ _
    · exact Loc.ifB (Loc.bind (Loc.over _ _ _ _) fun _ => Loc.pure _)
    · exact Loc.bind (Loc.wr _ _ _) fun _ => Loc.pure _
theorem Loc.cpyF (w : Nat) (d x : AV) : Loc (cpyF w d x) := by
  refine Loc.ofO fun m => ?_
  cases d <;> first
    | exact Loc.no
    | exact Loc.pure _
    | exact Loc.bind (Loc.firstL _ _ _) fun _ => Loc.bind (Loc.wr _ _ _) fun _ => Loc.pure _
theorem Loc.clrF (cs : List AV) (d : AV) : Loc (clrF cs d) := by
  cases d <;> first
    | exact Loc.no
    | exact Loc.pure _
    | exact Loc.bind (Loc.wr _ _ _) fun _ => Loc.pure _
theorem Loc.eqP (i : Id) (p : Nat) (j : Id) (q : Nat) : Loc (eqP i p j q) := by
  unfold Ev.eqP
  cases Nat.beq _ _
  · exact Loc.bind (Loc.shared _) fun _ => Loc.bind (Loc.shared _) fun _ => Loc.ifB (Loc.pure _)
  · exact Loc.pure _
theorem Loc.eqK (kd : Nat) (x y : AV) : Loc (eqK kd x y) := by
  unfold Ev.eqK
  split
  · cases x <;> first | exact Loc.no | (cases y <;> first | exact Loc.no | exact Loc.pure _)
  · cases x <;> first | exact Loc.no | (cases y <;> first | exact Loc.no | exact Loc.pure _ | exact Loc.eqP _ _ _ _)
  · cases x <;> first | exact Loc.no | (cases y <;> first | exact Loc.no | exact Loc.pure _)
  · cases x <;> first | exact Loc.no | (cases y <;> first | exact Loc.no | exact Loc.pure _)
  · cases x <;> first | exact Loc.no | skip
    cases y <;> first | exact Loc.no | skip
    unfold Ev.eqG
    dsimp only
    cases Nat.beq _ _
    · exact Loc.no
    · exact Loc.ofO fun _ => Loc.pure _
theorem Loc.strF (o : BinOp) (x : List Nat) (y : AV) : Loc (strF o x y) := by
  cases y <;> first | exact Loc.no | skip
  cases o <;> first | exact Loc.no | exact Loc.pure _ | exact Loc.ifB (Loc.pure _)
theorem Loc.intF (o : BinOp) (k : IntKind) (x : Int) (k' : IntKind) (y : Int) : Loc (intF o k x k' y) := by
  cases o <;> first | exact Loc.ofO fun _ => Loc.pure _ | exact Loc.ifB (Loc.ofO fun _ => Loc.pure _)
theorem Loc.binF (o : BinOp) (x y : AV) : Loc (binF o x y) := by
  cases x <;> first | exact Loc.no | exact Loc.strF _ _ _ | skip
  cases y <;> first | exact Loc.no | exact Loc.intF _ _ _ _ _
theorem Loc.cvtL (l : List AV) : Loc (cvtL l) := Loc.ofO fun _ => Loc.pure _
theorem Loc.cvtF (x : AV) : Loc (cvtF x) := by
  cases x <;> first | exact Loc.no | exact Loc.pure _ | exact Loc.bind (Loc.rd _ _ _) fun _ => Loc.cvtL _
theorem Loc.cvmF (x : AV) : Loc (cvmF x) := by
  cases x <;> first | exact Loc.no | exact Loc.bind (Loc.shared _) fun _ => Loc.ifB (Loc.pure _)
theorem Loc.cvbF (x : AV) : Loc (cvbF x) := by
  cases x <;> first | exact Loc.no | exact Loc.ifB (Loc.bind (Loc.new _ _) fun _ => Loc.pure _)
theorem Loc.mksF (z : Bool) (cs : List AV) (l c : AV) : Loc (mksF z cs l c) :=
  Loc.ofO fun _ => Loc.ofO fun _ => Loc.ifB (Loc.bind (Loc.new _ _) fun _ => Loc.pure _)
theorem Loc.ixaF (n w : Nat) (x i : AV) : Loc (ixaF n w x i) := Loc.ofO fun _ => by
  cases x <;> first | exact Loc.no | exact Loc.ifB (Loc.pure _)
theorem Loc.ixsF (w : Nat) (x i : AV) : Loc (ixsF w x i) := Loc.ofO fun _ => by
  cases x <;> first | exact Loc.no | exact Loc.ifB (Loc.pure _)
theorem Loc.ldF (x : AV) : Loc (ldF x) := by
  cases x <;> first | exact Loc.no | skip
  refine Loc.bind (Loc.rd _ _ _) fun l => ?_
  split
  · exact Loc.pure _
  · exact Loc.no
theorem Loc.ldnF (m : Nat) (x : AV) : Loc (ldnF m x) := by
  cases x <;> first | exact Loc.no | exact Loc.bind (Loc.rd _ _ _) fun _ => Loc.pure _
theorem Loc.stF (m : Nat) (x v : AV) : Loc (stF m x v) := by
  cases x <;> first | exact Loc.no | exact Loc.ofO fun _ => Loc.ifB (Loc.bind (Loc.wr _ _ _) fun _ => Loc.pure _)
theorem Loc.fadF (off : Nat) (x : AV) : Loc (fadF off x) := by
  cases x <;> first | exact Loc.no | exact Loc.pure _
theorem Loc.nilF (x : AV) : Loc (nilF x) := by
  cases x <;> first | exact Loc.no | exact Loc.pure _
theorem Loc.extF (x : AV) (j : Nat) : Loc (extF x j) := by
  cases x <;> first | exact Loc.no | exact Loc.ofO fun _ => Loc.pure _
theorem Loc.pickF (c x y : AV) : Loc (pickF c x y) := by
  cases c <;> first | exact Loc.no | skip
  rename_i t
  cases t <;> exact Loc.pure _
theorem Loc.cviF (k : IntKind) (x : AV) : Loc (cviF k x) := by
  cases x <;> first | exact Loc.no | exact Loc.pure _
theorem Loc.cvsF (x : AV) : Loc (cvsF x) := by
  cases x <;> first | exact Loc.no | exact Loc.pure _
theorem Loc.newF (z : Bool) (l : List AV) : Loc (newF z l) := Loc.bind (Loc.new _ _) fun _ => Loc.pure _

/-- functions whose runs are local -/
structure LocF (F : Fns) : Prop where
  fn : ∀ f l, Loc (F.fn f l)
theorem Loc.callF {F : Fns} (hF : LocF F) (f : AV) (l : List AV) : Loc (callF F f l) := by
  cases f <;> first | exact Loc.no | exact hF.fn _ _
theorem Loc.poR {F : Fns} (hF : LocF F) (o : PO) (e : Env) : Loc (poR o F e) := by
  cases o <;> first
    | exact Loc.pure _
    | exact Loc.pickF _ _ _
    | exact Loc.newF _ _
    | exact Loc.ofO fun _ => Loc.newF _ _
    | exact Loc.ofO fun _ => Loc.pure _
    | exact Loc.ofO fun _ => Loc.bind (Loc.new _ _) fun _ => Loc.pure _
    | exact Loc.ldF _
    | exact Loc.ldnF _ _
    | exact Loc.stF _ _ _
    | exact Loc.nilF _
    | exact Loc.binF _ _ _
    | exact Loc.bind (Loc.eqK _ _ _) fun _ => Loc.pure _
    | exact Loc.cviF _ _
    | exact Loc.cvsF _
    | exact Loc.cvbF _
    | exact Loc.cvtF _
    | exact Loc.cvmF _
    | exact Loc.mksF _ _ _ _
    | exact Loc.fadF _ _
    | exact Loc.ixaF _ _ _ _
    | exact Loc.ixsF _ _ _
    | exact Loc.extF _ _
    | exact Loc.callF hF _ _
    | exact Loc.ofO fun _ => Loc.ifB (Loc.bind (Loc.firstL _ _ _) fun _ => Loc.grow _ _ _ _ _)
    | exact Loc.ofO fun _ => Loc.ifB (Loc.grow _ _ _ _ _)
    | exact Loc.cpyF _ _ _
    | exact Loc.clrF _ _
theorem Loc.psV {F : Fns} (hF : LocF F) (o : PS) (e : Env) : Loc (psV o F e) := by
  unfold Ev.psV
  cases wanted o.g e
  · exact Loc.pure _
  · exact Loc.poR hF _ _
theorem Loc.psR {F : Fns} (hF : LocF F) (o : PS) (e : Env) : Loc (psR o F e) := Loc.bind (Loc.psV hF o e) fun _ => Loc.pure _
theorem Loc.opsR {F : Fns} (hF : LocF F) : ∀ (ops : List PS) (e : Env), Loc (opsR F ops e)
  | [], e => Loc.pure _
  | o :: l, e => Loc.bind (Loc.psR hF o e) fun e => Loc.opsR hF l e
theorem Loc.drwR {F : Fns} (hF : LocF F) : ∀ (ops : List PS) (ms : List Nat) (acc : List Ft) (i : Nat) (e : Env), Loc (drwR F ops ms acc i e)
  | [], _, _, _, e => Loc.pure _
  | o :: l, [], _, _, _ => Loc.no
  | o :: l, m :: ms, acc, i, e => by
    refine Loc.bind (Loc.apart (Loc.psR hF o e)) fun x => ?_
    cases acc.any _
    · exact Loc.drwR hF l ms _ _ _
    · exact Loc.no
theorem Loc.iter {b : Env → M (Option Ex × Env)} (hb : ∀ e, Loc (b e)) : ∀ (n : Nat) (e : Env), Loc (iter n b e)
  | 0, e => Loc.no
  | n + 1, e => by
    refine Loc.bind (hb e) fun r => ?_
    obtain ⟨ex, e1⟩ := r
    cases ex
    · exact Loc.iter hb n e1
    · exact Loc.pure _
theorem Loc.coR {F : Fns} (hF : LocF F) : ∀ (c : PC) (e : Env), Loc (coR F c e)
  | .skip, e => Loc.pure _
  | .ret, e => Loc.pure _
  | .exit id, e => Loc.pure _
  | .seq x y, e => by
    refine Loc.bind (Loc.coR hF x e) fun r => ?_
    obtain ⟨ex, e1⟩ := r
    cases ex
    · exact Loc.coR hF y e1
    · exact Loc.pure _
  | .cond c x y, e => by
    unfold Ev.coR
    cases arg c e <;> first | exact Loc.no | skip
    rename_i t
    cases t
    · exact Loc.coR hF y e
    · exact Loc.coR hF x e
  | .block id b, e => by
    refine Loc.bind (Loc.coR hF b e) fun r => ?_
    obtain ⟨ex, e1⟩ := r
    cases ex with
    | none => exact Loc.pure _
    | some ex =>
      cases ex with
      | ret => exact Loc.pure _
      | exit j =>
        simp only
        cases Nat.beq j id <;> exact Loc.pure _
  | .loop b, e => Loc.iter (fun e => Loc.coR hF b e) _ _
  | .reg ops, e => Loc.bind (Loc.opsR hF ops e) fun _ => Loc.pure _
  | .drw ops ms, e => Loc.bind (Loc.drwR hF ops ms [] 0 e) fun _ => Loc.pure _
theorem Loc.resL (e : Env) : ∀ l : List PR, Loc (resL e l)
  | [] => Loc.pure _
  | r :: l => by
    cases r
    · exact Loc.bind (Loc.resL e l) fun _ => Loc.pure _
    · exact Loc.bind (Loc.ldF _) fun _ => Loc.bind (Loc.resL e l) fun _ => Loc.pure _
    · exact Loc.bind (Loc.ldnF _ _) fun _ => Loc.bind (Loc.resL e l) fun _ => Loc.pure _
theorem Loc.run {own : Nat → List AV → M AV} (ho : ∀ k l, Loc (own k l)) (X : Nat → Option PF) : ∀ n, LocF (run own X n)
  | 0 => ⟨fun _ _ => Loc.no⟩
  | n + 1 => by
    have ih := Loc.run ho X n
    refine ⟨fun f l => ?_⟩
    show Loc (fnR own X (Ev.run own X n) f l)
    unfold fnR
    split
    · exact Loc.no
    · exact ho _ _
    · refine Loc.bind (Loc.coR ih _ _) fun r => ?_
      split
      · exact Loc.no
      · exact Loc.bind (Loc.resL _ _) fun _ => Loc.pure _
end Ev
end Go.Proofs.Ytijnjnncgkhabaa
