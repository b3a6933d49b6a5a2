/- DERIVED. slices.Replace of rows of two cells, by one element: what it does to our memory. -/
import Derived.Test.YtijnjnncgkhabaaEvH
import Derived.Test.YtijnjnncgkhabaaEvK3
set_option linter.unusedVariables false
namespace Go.Proofs.Ytijnjnncgkhabaa
namespace Ev
noncomputable def replB (vid : Id) (i j : Nat) (v : List AV) (s : AV) : M AV := match s with
  | .s0 => M.ifB (Nat.beq i 0 && Nat.beq j 0) (M.bind (M.new ⟨false, true, false⟩ v) fun id => M.pure (.so id 0 1 1 2))
  | .so id off n q w => M.ifB (((Nat.beq off 0 && Nat.ble 1 q) && Nat.beq w 2) && (Nat.ble i j && (Nat.ble j n && (Nat.ble n lim && !Nat.beq id.num vid.num)))) (M.bind (M.shared id) fun z => M.ifB (!z.s && z.b)
      (M.bind (M.rd id 0 (n * 2)) fun old => M.bind (M.over id 0 (i * 2) (v ++ old.drop (j * 2))) fun id =>
        M.pure (.so id 0 (i + 1 + (n - j)) (i + 1 + (n - j)) 2)))
  | _ => M.no
noncomputable def replV (s i j : AV) (v : AV) : M AV := match v with
  | .sl vid off n c => M.ifB (Nat.beq off 0 && (Nat.beq n 1 && Nat.beq c 1)) (M.ofO (nat64 i) fun i => M.ofO (nat64 j) fun j => M.bind (M.ends vid) fun zv => M.ifB ((!zv.1.s && Nat.beq zv.2 2) && (zv.1.b && zv.1.t)) (M.bind (M.rd vid 0 2) fun v => replB vid i j v s))
  | _ => M.no
noncomputable def replF (_k : Nat) (l : List AV) : M AV := match l with
  | [s, i, j, v] => replV s i j v
  | _ => M.no

theorem Loc.replB (vid : Id) (i j : Nat) (v : List AV) (s : AV) : Loc (replB vid i j v s) := by
  cases s <;> first
    | exact Loc.no
    | exact Loc.ifB (Loc.bind (Loc.new _ _) fun _ => Loc.pure _)
    | exact Loc.ifB (Loc.bind (Loc.shared _) fun _ => Loc.ifB (Loc.bind (Loc.rd _ _ _) fun _ => Loc.bind (Loc.over _ _ _ _) fun _ => Loc.pure _))
theorem Loc.replV (s i j v : AV) : Loc (replV s i j v) := by
  cases v <;> first
    | exact Loc.no
    | exact Loc.ifB (Loc.ofO fun _ => Loc.ofO fun _ => Loc.bind (Loc.ends _) fun _ => Loc.ifB (Loc.bind (Loc.rd _ _ _) fun _ => Loc.replB _ _ _ _ _))
theorem Loc.replF (k : Nat) (l : List AV) : Loc (replF k l) := by
  match l with
  | [] => exact Loc.no
  | [_] => exact Loc.no
  | [_, _] => exact Loc.no
  | [_, _, _] => exact Loc.no
  | [s, i, j, v] => exact Loc.replV s i j v
  | _ :: _ :: _ :: _ :: _ :: _ => exact Loc.no
namespace Kq
theorem Ref.replB (vid : Id) (i j : Nat) (v : List AV) (s : AV) : Ref Eq (Kq.replB vid i j v s) (Ev.replB vid i j v s) := by
  cases s <;> first
    | exact Ref.no
    | exact Ref.ifB (Ref.eqv (Ref.new _ _) fun _ => Ref.ret _)
    | exact Ref.ifB (Ref.eqv (Ref.shared _) fun _ => Ref.ifB (Ref.eqv (Ref.rd _ _ _) fun _ => Ref.eqv (Ref.over _ _ _ _) fun _ => Ref.ret _))
theorem Ref.replV (s i j v : AV) : Ref Eq (Kq.replV s i j v) (Ev.replV s i j v) := by
  cases v <;> first
    | exact Ref.no
    | exact Ref.ifB (Ref.ofO fun _ _ => Ref.ofO fun _ _ => Ref.eqv (Ref.ends _) fun _ => Ref.ifB (Ref.eqv (Ref.rd _ _ _) fun _ => Ref.replB _ _ _ _ _))
theorem Ref.replQ (k : Nat) (l : List AV) : Ref Eq (Kq.replQ k l) (Ev.replF k l) := by
  match l with
  | [] => exact Ref.no
  | [_] => exact Ref.no
  | [_, _] => exact Ref.no
  | [_, _, _] => exact Ref.no
  | [s, i, j, v] => exact Ref.replV s i j v
  | _ :: _ :: _ :: _ :: _ :: _ => exact Ref.no
end Kq
end Ev
end Go.Proofs.Ytijnjnncgkhabaa
