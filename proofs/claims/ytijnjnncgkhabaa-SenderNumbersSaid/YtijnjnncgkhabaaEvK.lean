/- DERIVED, printed by genk.py. The evaluator once more, made for the kernel: memory, cells and slots in trees, in continuation style, eliminators with closed minors. -/
import Derived.Test.YtijnjnncgkhabaaEvS
set_option linter.unusedVariables false
namespace Go.Proofs.Ytijnjnncgkhabaa
namespace Ev
/-- a number of Go's int, not below 0 -/
def nat64 (v : AV) : Option Nat := match v with
  | .i .i64 (.ofNat a) => some a
  | _ => none
namespace Kq
/-- eight -/
structure N8 (α : Type) where
  c0 : α
  c1 : α
  c2 : α
  c3 : α
  c4 : α
  c5 : α
  c6 : α
  c7 : α
def N8.all {α : Type} (x : α) : N8 α := ⟨x, x, x, x, x, x, x, x⟩
/-- one of eight, by a digit that is known ahead -/
structure Sl where
  f : (α : Type) → N8 α → α
def sl (d : Dg) : Sl := match d with
  | .d0 => ⟨fun _ t => t.c0⟩
  | .d1 => ⟨fun _ t => t.c1⟩
  | .d2 => ⟨fun _ t => t.c2⟩
  | .d3 => ⟨fun _ t => t.c3⟩
  | .d4 => ⟨fun _ t => t.c4⟩
  | .d5 => ⟨fun _ t => t.c5⟩
  | .d6 => ⟨fun _ t => t.c6⟩
  | .d7 => ⟨fun _ t => t.c7⟩
structure Us where
  f : (α : Type) → (α → α) → N8 α → N8 α
noncomputable def us (d : Dg) : Us := match d with
  | .d0 => ⟨fun α f t => N8.rec (motive := fun _ => (α → α) → N8 α) (fun c0 c1 c2 c3 c4 c5 c6 c7 f => ⟨f c0, c1, c2, c3, c4, c5, c6, c7⟩) t f⟩
  | .d1 => ⟨fun α f t => N8.rec (motive := fun _ => (α → α) → N8 α) (fun c0 c1 c2 c3 c4 c5 c6 c7 f => ⟨c0, f c1, c2, c3, c4, c5, c6, c7⟩) t f⟩
  | .d2 => ⟨fun α f t => N8.rec (motive := fun _ => (α → α) → N8 α) (fun c0 c1 c2 c3 c4 c5 c6 c7 f => ⟨c0, c1, f c2, c3, c4, c5, c6, c7⟩) t f⟩
  | .d3 => ⟨fun α f t => N8.rec (motive := fun _ => (α → α) → N8 α) (fun c0 c1 c2 c3 c4 c5 c6 c7 f => ⟨c0, c1, c2, f c3, c4, c5, c6, c7⟩) t f⟩
  | .d4 => ⟨fun α f t => N8.rec (motive := fun _ => (α → α) → N8 α) (fun c0 c1 c2 c3 c4 c5 c6 c7 f => ⟨c0, c1, c2, c3, f c4, c5, c6, c7⟩) t f⟩
  | .d5 => ⟨fun α f t => N8.rec (motive := fun _ => (α → α) → N8 α) (fun c0 c1 c2 c3 c4 c5 c6 c7 f => ⟨c0, c1, c2, c3, c4, f c5, c6, c7⟩) t f⟩
  | .d6 => ⟨fun α f t => N8.rec (motive := fun _ => (α → α) → N8 α) (fun c0 c1 c2 c3 c4 c5 c6 c7 f => ⟨c0, c1, c2, c3, c4, c5, f c6, c7⟩) t f⟩
  | .d7 => ⟨fun α f t => N8.rec (motive := fun _ => (α → α) → N8 α) (fun c0 c1 c2 c3 c4 c5 c6 c7 f => ⟨c0, c1, c2, c3, c4, c5, c6, f c7⟩) t f⟩
def gt {α : Type} (d : Dg) (t : N8 α) : α := (sl d).f α t
noncomputable def up {α : Type} (d : Dg) (f : α → α) (t : N8 α) : N8 α := (us d).f α f t
/-- a slot's number in digits; none: too large -/
def dgs (n : Nat) : Option Dg := match n with
  | 0 => some .d0 | 1 => some .d1 | 2 => some .d2 | 3 => some .d3 | 4 => some .d4 | 5 => some .d5 | 6 => some .d6 | 7 => some .d7 | _ => none
/-- slots: the first eight, those below 64, all below 512 -/
structure E where
  lo : N8 AV
  md : N8 (N8 AV)
  hi : N8 (N8 (N8 AV))
structure G where
  g : E → AV
structure P where
  p : AV → E → E
noncomputable def gtS (n : Nat) : G := match dgs (n / 64) with
  | none => ⟨fun _ => und⟩
  | some a => match dgs (n / 8 % 8) with
    | none => ⟨fun _ => und⟩
    | some b => match dgs (n % 8) with
      | none => ⟨fun _ => und⟩
      | some c => match sl c with
        | ⟨fc⟩ => match Nat.blt n 8 with
          | true => ⟨fun e => fc AV e.lo⟩
          | false => match sl b with
            | ⟨fb⟩ => match Nat.blt n 64 with
              | true => ⟨fun e => fc AV (fb (N8 AV) e.md)⟩
              | false => match sl a with
                | ⟨fa⟩ => ⟨fun e => fc AV (fb (N8 AV) (fa (N8 (N8 AV)) e.hi))⟩
noncomputable def ptS (n : Nat) : Option P := match dgs (n / 64) with
  | none => none
  | some a => match dgs (n / 8 % 8) with
    | none => none
    | some b => match dgs (n % 8) with
      | none => none
      | some c => match us c with
        | ⟨fc⟩ => match Nat.blt n 8 with
          | true => some ⟨fun v e => E.rec (motive := fun _ => AV → E) (fun lo md hi v => ⟨fc AV (fun _ => v) lo, md, hi⟩) e v⟩
          | false => match us b with
            | ⟨fb⟩ => match Nat.blt n 64 with
              | true => some ⟨fun v e => E.rec (motive := fun _ => AV → E) (fun lo md hi v => ⟨lo, fb (N8 AV) (fun t => fc AV (fun _ => v) t) md, hi⟩) e v⟩
              | false => match us a with
                | ⟨fa⟩ => some ⟨fun v e => E.rec (motive := fun _ => AV → E) (fun lo md hi v => ⟨lo, md, fa (N8 (N8 AV)) (fun t => fb (N8 AV) (fun t => fc AV (fun _ => v) t) t) hi⟩) e v⟩

/-- lists, for the kernel -/
noncomputable def hdL (l : List AV) : AV := List.rec (motive := fun _ => AV) und (fun v _ _ => v) l
noncomputable def tlL (l : List AV) : List AV := List.rec (motive := fun _ => List AV) [] (fun _ l _ => l) l
noncomputable def lnL (l : List AV) : Nat := List.rec (motive := fun _ => Nat) 0 (fun _ _ n => Nat.succ n) l
noncomputable def apL (l m : List AV) : List AV := List.rec (motive := fun _ => List AV → List AV) (fun m => m) (fun v _ ih m => v :: ih m) l m
noncomputable def tl8 (l : List AV) : List AV := tlL (tlL (tlL (tlL (tlL (tlL (tlL (tlL l)))))))
noncomputable def pk (l : List AV) : N8 AV := ⟨hdL l, hdL (tlL l), hdL (tlL (tlL l)), hdL (tlL (tlL (tlL l))), hdL (tlL (tlL (tlL (tlL l)))), hdL (tlL (tlL (tlL (tlL (tlL l))))), hdL (tlL (tlL (tlL (tlL (tlL (tlL l)))))), hdL (tlL (tlL (tlL (tlL (tlL (tlL (tlL l))))))) ⟩

/-- a block's cells: as deep as they are many -/
abbrev L1 := N8 AV
abbrev L2 := N8 L1
abbrev L3 := N8 L2
abbrev L4 := N8 L3
inductive Tr where
  | t0 (v : AV)
  | t1 (c : L1)
  | t2 (c : L2)
  | t3 (c : L3)
  | t4 (c : L4)
def l1 : L1 := N8.all und
def l2 : L2 := N8.all l1
def l3 : L3 := N8.all l2
def l4 : L4 := N8.all l3
/-- the digit of a number below eight -/
noncomputable def dig (x : Nat) : Dg := Bool.rec (motive := fun _ => Nat → Dg)
  (fun x => Bool.rec (motive := fun _ => Nat → Dg) (fun x => Bool.rec (motive := fun _ => Dg) Dg.d0 Dg.d1 (Nat.ble 1 x)) (fun x => Bool.rec (motive := fun _ => Dg) Dg.d2 Dg.d3 (Nat.ble 3 x)) (Nat.ble 2 x) x)
  (fun x => Bool.rec (motive := fun _ => Nat → Dg) (fun x => Bool.rec (motive := fun _ => Dg) Dg.d4 Dg.d5 (Nat.ble 5 x)) (fun x => Bool.rec (motive := fun _ => Dg) Dg.d6 Dg.d7 (Nat.ble 7 x)) (Nat.ble 6 x) x)
  (Nat.ble 4 x) x
noncomputable def e0 (i : Nat) : Dg := dig (Nat.mod i 8)
noncomputable def e1 (i : Nat) : Dg := dig (Nat.mod (Nat.div i 8) 8)
noncomputable def e2 (i : Nat) : Dg := dig (Nat.mod (Nat.div i 64) 8)
noncomputable def e3 (i : Nat) : Dg := dig (Nat.mod (Nat.div i 512) 8)
noncomputable def g0 (d : Dg) (t : N8 (AV)) : AV := Dg.rec (motive := fun _ => N8 (AV) → AV) (fun t => t.c0) (fun t => t.c1) (fun t => t.c2) (fun t => t.c3) (fun t => t.c4) (fun t => t.c5) (fun t => t.c6) (fun t => t.c7) d t
noncomputable def u0 (d : Dg) (f : AV → AV) (t : N8 (AV)) : N8 (AV) := Dg.rec (motive := fun _ => (AV → AV) → N8 (AV) → N8 (AV)) (fun f t => N8.rec (motive := fun _ => (AV → AV) → N8 (AV)) (fun c0 c1 c2 c3 c4 c5 c6 c7 f => ⟨f c0, c1, c2, c3, c4, c5, c6, c7⟩) t f) (fun f t => N8.rec (motive := fun _ => (AV → AV) → N8 (AV)) (fun c0 c1 c2 c3 c4 c5 c6 c7 f => ⟨c0, f c1, c2, c3, c4, c5, c6, c7⟩) t f) (fun f t => N8.rec (motive := fun _ => (AV → AV) → N8 (AV)) (fun c0 c1 c2 c3 c4 c5 c6 c7 f => ⟨c0, c1, f c2, c3, c4, c5, c6, c7⟩) t f) (fun f t => N8.rec (motive := fun _ => (AV → AV) → N8 (AV)) (fun c0 c1 c2 c3 c4 c5 c6 c7 f => ⟨c0, c1, c2, f c3, c4, c5, c6, c7⟩) t f) (fun f t => N8.rec (motive := fun _ => (AV → AV) → N8 (AV)) (fun c0 c1 c2 c3 c4 c5 c6 c7 f => ⟨c0, c1, c2, c3, f c4, c5, c6, c7⟩) t f) (fun f t => N8.rec (motive := fun _ => (AV → AV) → N8 (AV)) (fun c0 c1 c2 c3 c4 c5 c6 c7 f => ⟨c0, c1, c2, c3, c4, f c5, c6, c7⟩) t f) (fun f t => N8.rec (motive := fun _ => (AV → AV) → N8 (AV)) (fun c0 c1 c2 c3 c4 c5 c6 c7 f => ⟨c0, c1, c2, c3, c4, c5, f c6, c7⟩) t f) (fun f t => N8.rec (motive := fun _ => (AV → AV) → N8 (AV)) (fun c0 c1 c2 c3 c4 c5 c6 c7 f => ⟨c0, c1, c2, c3, c4, c5, c6, f c7⟩) t f) d f t
noncomputable def g1 (d : Dg) (t : N8 (L1)) : L1 := Dg.rec (motive := fun _ => N8 (L1) → L1) (fun t => t.c0) (fun t => t.c1) (fun t => t.c2) (fun t => t.c3) (fun t => t.c4) (fun t => t.c5) (fun t => t.c6) (fun t => t.c7) d t
noncomputable def u1 (d : Dg) (f : L1 → L1) (t : N8 (L1)) : N8 (L1) := Dg.rec (motive := fun _ => (L1 → L1) → N8 (L1) → N8 (L1)) (fun f t => N8.rec (motive := fun _ => (L1 → L1) → N8 (L1)) (fun c0 c1 c2 c3 c4 c5 c6 c7 f => ⟨f c0, c1, c2, c3, c4, c5, c6, c7⟩) t f) (fun f t => N8.rec (motive := fun _ => (L1 → L1) → N8 (L1)) (fun c0 c1 c2 c3 c4 c5 c6 c7 f => ⟨c0, f c1, c2, c3, c4, c5, c6, c7⟩) t f) (fun f t => N8.rec (motive := fun _ => (L1 → L1) → N8 (L1)) (fun c0 c1 c2 c3 c4 c5 c6 c7 f => ⟨c0, c1, f c2, c3, c4, c5, c6, c7⟩) t f) (fun f t => N8.rec (motive := fun _ => (L1 → L1) → N8 (L1)) (fun c0 c1 c2 c3 c4 c5 c6 c7 f => ⟨c0, c1, c2, f c3, c4, c5, c6, c7⟩) t f) (fun f t => N8.rec (motive := fun _ => (L1 → L1) → N8 (L1)) (fun c0 c1 c2 c3 c4 c5 c6 c7 f => ⟨c0, c1, c2, c3, f c4, c5, c6, c7⟩) t f) (fun f t => N8.rec (motive := fun _ => (L1 → L1) → N8 (L1)) (fun c0 c1 c2 c3 c4 c5 c6 c7 f => ⟨c0, c1, c2, c3, c4, f c5, c6, c7⟩) t f) (fun f t => N8.rec (motive := fun _ => (L1 → L1) → N8 (L1)) (fun c0 c1 c2 c3 c4 c5 c6 c7 f => ⟨c0, c1, c2, c3, c4, c5, f c6, c7⟩) t f) (fun f t => N8.rec (motive := fun _ => (L1 → L1) → N8 (L1)) (fun c0 c1 c2 c3 c4 c5 c6 c7 f => ⟨c0, c1, c2, c3, c4, c5, c6, f c7⟩) t f) d f t
noncomputable def g2 (d : Dg) (t : N8 (L2)) : L2 := Dg.rec (motive := fun _ => N8 (L2) → L2) (fun t => t.c0) (fun t => t.c1) (fun t => t.c2) (fun t => t.c3) (fun t => t.c4) (fun t => t.c5) (fun t => t.c6) (fun t => t.c7) d t
noncomputable def u2 (d : Dg) (f : L2 → L2) (t : N8 (L2)) : N8 (L2) := Dg.rec (motive := fun _ => (L2 → L2) → N8 (L2) → N8 (L2)) (fun f t => N8.rec (motive := fun _ => (L2 → L2) → N8 (L2)) (fun c0 c1 c2 c3 c4 c5 c6 c7 f => ⟨f c0, c1, c2, c3, c4, c5, c6, c7⟩) t f) (fun f t => N8.rec (motive := fun _ => (L2 → L2) → N8 (L2)) (fun c0 c1 c2 c3 c4 c5 c6 c7 f => ⟨c0, f c1, c2, c3, c4, c5, c6, c7⟩) t f) (fun f t => N8.rec (motive := fun _ => (L2 → L2) → N8 (L2)) (fun c0 c1 c2 c3 c4 c5 c6 c7 f => ⟨c0, c1, f c2, c3, c4, c5, c6, c7⟩) t f) (fun f t => N8.rec (motive := fun _ => (L2 → L2) → N8 (L2)) (fun c0 c1 c2 c3 c4 c5 c6 c7 f => ⟨c0, c1, c2, f c3, c4, c5, c6, c7⟩) t f) (fun f t => N8.rec (motive := fun _ => (L2 → L2) → N8 (L2)) (fun c0 c1 c2 c3 c4 c5 c6 c7 f => ⟨c0, c1, c2, c3, f c4, c5, c6, c7⟩) t f) (fun f t => N8.rec (motive := fun _ => (L2 → L2) → N8 (L2)) (fun c0 c1 c2 c3 c4 c5 c6 c7 f => ⟨c0, c1, c2, c3, c4, f c5, c6, c7⟩) t f) (fun f t => N8.rec (motive := fun _ => (L2 → L2) → N8 (L2)) (fun c0 c1 c2 c3 c4 c5 c6 c7 f => ⟨c0, c1, c2, c3, c4, c5, f c6, c7⟩) t f) (fun f t => N8.rec (motive := fun _ => (L2 → L2) → N8 (L2)) (fun c0 c1 c2 c3 c4 c5 c6 c7 f => ⟨c0, c1, c2, c3, c4, c5, c6, f c7⟩) t f) d f t
noncomputable def g3 (d : Dg) (t : N8 (L3)) : L3 := Dg.rec (motive := fun _ => N8 (L3) → L3) (fun t => t.c0) (fun t => t.c1) (fun t => t.c2) (fun t => t.c3) (fun t => t.c4) (fun t => t.c5) (fun t => t.c6) (fun t => t.c7) d t
noncomputable def u3 (d : Dg) (f : L3 → L3) (t : N8 (L3)) : N8 (L3) := Dg.rec (motive := fun _ => (L3 → L3) → N8 (L3) → N8 (L3)) (fun f t => N8.rec (motive := fun _ => (L3 → L3) → N8 (L3)) (fun c0 c1 c2 c3 c4 c5 c6 c7 f => ⟨f c0, c1, c2, c3, c4, c5, c6, c7⟩) t f) (fun f t => N8.rec (motive := fun _ => (L3 → L3) → N8 (L3)) (fun c0 c1 c2 c3 c4 c5 c6 c7 f => ⟨c0, f c1, c2, c3, c4, c5, c6, c7⟩) t f) (fun f t => N8.rec (motive := fun _ => (L3 → L3) → N8 (L3)) (fun c0 c1 c2 c3 c4 c5 c6 c7 f => ⟨c0, c1, f c2, c3, c4, c5, c6, c7⟩) t f) (fun f t => N8.rec (motive := fun _ => (L3 → L3) → N8 (L3)) (fun c0 c1 c2 c3 c4 c5 c6 c7 f => ⟨c0, c1, c2, f c3, c4, c5, c6, c7⟩) t f) (fun f t => N8.rec (motive := fun _ => (L3 → L3) → N8 (L3)) (fun c0 c1 c2 c3 c4 c5 c6 c7 f => ⟨c0, c1, c2, c3, f c4, c5, c6, c7⟩) t f) (fun f t => N8.rec (motive := fun _ => (L3 → L3) → N8 (L3)) (fun c0 c1 c2 c3 c4 c5 c6 c7 f => ⟨c0, c1, c2, c3, c4, f c5, c6, c7⟩) t f) (fun f t => N8.rec (motive := fun _ => (L3 → L3) → N8 (L3)) (fun c0 c1 c2 c3 c4 c5 c6 c7 f => ⟨c0, c1, c2, c3, c4, c5, f c6, c7⟩) t f) (fun f t => N8.rec (motive := fun _ => (L3 → L3) → N8 (L3)) (fun c0 c1 c2 c3 c4 c5 c6 c7 f => ⟨c0, c1, c2, c3, c4, c5, c6, f c7⟩) t f) d f t
noncomputable def getT (t : Tr) (i : Nat) : AV := Tr.rec (motive := fun _ => Nat → AV) (fun v _ => v) (fun c i => g0 (e0 i) c) (fun c i => g0 (e0 i) (g1 (e1 i) c)) (fun c i => g0 (e0 i) (g1 (e1 i) (g2 (e2 i) c))) (fun c i => g0 (e0 i) (g1 (e1 i) (g2 (e2 i) (g3 (e3 i) c)))) t i
noncomputable def setT (t : Tr) (i : Nat) (v : AV) : Tr := Tr.rec (motive := fun _ => Nat → AV → Tr) (fun _ _ v => .t0 v) (fun c i v => .t1 (u0 (e0 i) (fun _ => v) c)) (fun c i v => .t2 (u1 (e1 i) (u0 (e0 i) fun _ => v) c)) (fun c i v => .t3 (u2 (e2 i) (u1 (e1 i) (u0 (e0 i) fun _ => v)) c)) (fun c i v => .t4 (u3 (e3 i) (u2 (e2 i) (u1 (e1 i) (u0 (e0 i) fun _ => v))) c)) t i v
/-- room for how many -/
noncomputable def capT (t : Tr) : Nat := Tr.rec (motive := fun _ => Nat) (fun _ => 1) (fun _ => 8) (fun _ => 64) (fun _ => 512) (fun _ => 4096) t
noncomputable def wrapT (t : Tr) : Tr := Tr.rec (motive := fun _ => Tr) (fun v => .t1 ⟨v, und, und, und, und, und, und, und⟩) (fun c => .t2 ⟨c, l1, l1, l1, l1, l1, l1, l1⟩) (fun c => .t3 ⟨c, l2, l2, l2, l2, l2, l2, l2⟩) (fun c => .t4 ⟨c, l3, l3, l3, l3, l3, l3, l3⟩) (fun c => .t4 c) t
/-- with room for n, if there can be -/
noncomputable def fitT (f : Nat) (t : Tr) (n : Nat) : Tr := Nat.rec (motive := fun _ => Tr → Nat → Tr) (fun t _ => t) (fun _ ih t n => Bool.rec (motive := fun _ => (Tr → Nat → Tr) → Tr → Nat → Tr) (fun ih t n => ih (wrapT t) n) (fun _ t _ => t) (Nat.ble n (capT t)) ih t n) f t n
/-- l from i on -/
noncomputable def putL (l : List AV) (t : Tr) (i : Nat) : Tr := List.rec (motive := fun _ => Tr → Nat → Tr) (fun t _ => t) (fun v _ ih t i => ih (setT t i v) (Nat.succ i)) l t i
/-- m cells from i on -/
noncomputable def getL (m : Nat) (t : Tr) (i : Nat) : List AV := Nat.rec (motive := fun _ => Tr → Nat → List AV) (fun _ _ => []) (fun _ ih t i => getT t i :: ih t (Nat.succ i)) m t i
noncomputable def allT (n : Nat) (v : AV) : Tr := Bool.rec (motive := fun _ => Nat → AV → Tr) (fun n v => Bool.rec (motive := fun _ => Nat → AV → Tr) (fun n v => Bool.rec (motive := fun _ => Nat → AV → Tr) (fun n v => Bool.rec (motive := fun _ => AV → Tr) (fun v => .t4 (N8.all (N8.all (N8.all (N8.all v))))) (fun v => .t3 (N8.all (N8.all (N8.all v)))) (Nat.ble n 512) v) (fun _ v => .t2 (N8.all (N8.all v))) (Nat.ble n 64) n v) (fun _ v => .t1 (N8.all v)) (Nat.ble n 8) n v) (fun _ v => .t0 v) (Nat.ble n 1) n v
/-- a list's cells, many at once -/
noncomputable def toT (l : List AV) : Tr := Bool.rec (motive := fun _ => List AV → Tr) (fun l => Bool.rec (motive := fun _ => List AV → Tr) (fun l => putL l (allT (lnL l) und) 0) (fun l => .t1 (pk l)) (Nat.ble (lnL l) 8) l) (fun l => .t0 (hdL l)) (Nat.ble (lnL l) 1) l

/-- a block: its marks, how many cells, the cells -/
structure Bk where
  z : Zf
  n : Nat
  t : Tr
abbrev OB := Option Bk
abbrev H1 := N8 OB
abbrev H2 := N8 H1
abbrev H3 := N8 H2
abbrev H4 := N8 H3
abbrev H5 := N8 H4
abbrev H6 := N8 H5
def h1 : H1 := N8.all none
def h2 : H2 := N8.all h1
def h3 : H3 := N8.all h2
def h4 : H4 := N8.all h3
def h5 : H5 := N8.all h4
def h6 : H6 := N8.all h5
noncomputable def gB (d : Dg) (t : N8 (OB)) : OB := Dg.rec (motive := fun _ => N8 (OB) → OB) (fun t => t.c0) (fun t => t.c1) (fun t => t.c2) (fun t => t.c3) (fun t => t.c4) (fun t => t.c5) (fun t => t.c6) (fun t => t.c7) d t
noncomputable def uB (d : Dg) (f : OB → OB) (t : N8 (OB)) : N8 (OB) := Dg.rec (motive := fun _ => (OB → OB) → N8 (OB) → N8 (OB)) (fun f t => N8.rec (motive := fun _ => (OB → OB) → N8 (OB)) (fun c0 c1 c2 c3 c4 c5 c6 c7 f => ⟨f c0, c1, c2, c3, c4, c5, c6, c7⟩) t f) (fun f t => N8.rec (motive := fun _ => (OB → OB) → N8 (OB)) (fun c0 c1 c2 c3 c4 c5 c6 c7 f => ⟨c0, f c1, c2, c3, c4, c5, c6, c7⟩) t f) (fun f t => N8.rec (motive := fun _ => (OB → OB) → N8 (OB)) (fun c0 c1 c2 c3 c4 c5 c6 c7 f => ⟨c0, c1, f c2, c3, c4, c5, c6, c7⟩) t f) (fun f t => N8.rec (motive := fun _ => (OB → OB) → N8 (OB)) (fun c0 c1 c2 c3 c4 c5 c6 c7 f => ⟨c0, c1, c2, f c3, c4, c5, c6, c7⟩) t f) (fun f t => N8.rec (motive := fun _ => (OB → OB) → N8 (OB)) (fun c0 c1 c2 c3 c4 c5 c6 c7 f => ⟨c0, c1, c2, c3, f c4, c5, c6, c7⟩) t f) (fun f t => N8.rec (motive := fun _ => (OB → OB) → N8 (OB)) (fun c0 c1 c2 c3 c4 c5 c6 c7 f => ⟨c0, c1, c2, c3, c4, f c5, c6, c7⟩) t f) (fun f t => N8.rec (motive := fun _ => (OB → OB) → N8 (OB)) (fun c0 c1 c2 c3 c4 c5 c6 c7 f => ⟨c0, c1, c2, c3, c4, c5, f c6, c7⟩) t f) (fun f t => N8.rec (motive := fun _ => (OB → OB) → N8 (OB)) (fun c0 c1 c2 c3 c4 c5 c6 c7 f => ⟨c0, c1, c2, c3, c4, c5, c6, f c7⟩) t f) d f t
noncomputable def gH1 (d : Dg) (t : N8 (H1)) : H1 := Dg.rec (motive := fun _ => N8 (H1) → H1) (fun t => t.c0) (fun t => t.c1) (fun t => t.c2) (fun t => t.c3) (fun t => t.c4) (fun t => t.c5) (fun t => t.c6) (fun t => t.c7) d t
noncomputable def uH1 (d : Dg) (f : H1 → H1) (t : N8 (H1)) : N8 (H1) := Dg.rec (motive := fun _ => (H1 → H1) → N8 (H1) → N8 (H1)) (fun f t => N8.rec (motive := fun _ => (H1 → H1) → N8 (H1)) (fun c0 c1 c2 c3 c4 c5 c6 c7 f => ⟨f c0, c1, c2, c3, c4, c5, c6, c7⟩) t f) (fun f t => N8.rec (motive := fun _ => (H1 → H1) → N8 (H1)) (fun c0 c1 c2 c3 c4 c5 c6 c7 f => ⟨c0, f c1, c2, c3, c4, c5, c6, c7⟩) t f) (fun f t => N8.rec (motive := fun _ => (H1 → H1) → N8 (H1)) (fun c0 c1 c2 c3 c4 c5 c6 c7 f => ⟨c0, c1, f c2, c3, c4, c5, c6, c7⟩) t f) (fun f t => N8.rec (motive := fun _ => (H1 → H1) → N8 (H1)) (fun c0 c1 c2 c3 c4 c5 c6 c7 f => ⟨c0, c1, c2, f c3, c4, c5, c6, c7⟩) t f) (fun f t => N8.rec (motive := fun _ => (H1 → H1) → N8 (H1)) (fun c0 c1 c2 c3 c4 c5 c6 c7 f => ⟨c0, c1, c2, c3, f c4, c5, c6, c7⟩) t f) (fun f t => N8.rec (motive := fun _ => (H1 → H1) → N8 (H1)) (fun c0 c1 c2 c3 c4 c5 c6 c7 f => ⟨c0, c1, c2, c3, c4, f c5, c6, c7⟩) t f) (fun f t => N8.rec (motive := fun _ => (H1 → H1) → N8 (H1)) (fun c0 c1 c2 c3 c4 c5 c6 c7 f => ⟨c0, c1, c2, c3, c4, c5, f c6, c7⟩) t f) (fun f t => N8.rec (motive := fun _ => (H1 → H1) → N8 (H1)) (fun c0 c1 c2 c3 c4 c5 c6 c7 f => ⟨c0, c1, c2, c3, c4, c5, c6, f c7⟩) t f) d f t
noncomputable def gH2 (d : Dg) (t : N8 (H2)) : H2 := Dg.rec (motive := fun _ => N8 (H2) → H2) (fun t => t.c0) (fun t => t.c1) (fun t => t.c2) (fun t => t.c3) (fun t => t.c4) (fun t => t.c5) (fun t => t.c6) (fun t => t.c7) d t
noncomputable def uH2 (d : Dg) (f : H2 → H2) (t : N8 (H2)) : N8 (H2) := Dg.rec (motive := fun _ => (H2 → H2) → N8 (H2) → N8 (H2)) (fun f t => N8.rec (motive := fun _ => (H2 → H2) → N8 (H2)) (fun c0 c1 c2 c3 c4 c5 c6 c7 f => ⟨f c0, c1, c2, c3, c4, c5, c6, c7⟩) t f) (fun f t => N8.rec (motive := fun _ => (H2 → H2) → N8 (H2)) (fun c0 c1 c2 c3 c4 c5 c6 c7 f => ⟨c0, f c1, c2, c3, c4, c5, c6, c7⟩) t f) (fun f t => N8.rec (motive := fun _ => (H2 → H2) → N8 (H2)) (fun c0 c1 c2 c3 c4 c5 c6 c7 f => ⟨c0, c1, f c2, c3, c4, c5, c6, c7⟩) t f) (fun f t => N8.rec (motive := fun _ => (H2 → H2) → N8 (H2)) (fun c0 c1 c2 c3 c4 c5 c6 c7 f => ⟨c0, c1, c2, f c3, c4, c5, c6, c7⟩) t f) (fun f t => N8.rec (motive := fun _ => (H2 → H2) → N8 (H2)) (fun c0 c1 c2 c3 c4 c5 c6 c7 f => ⟨c0, c1, c2, c3, f c4, c5, c6, c7⟩) t f) (fun f t => N8.rec (motive := fun _ => (H2 → H2) → N8 (H2)) (fun c0 c1 c2 c3 c4 c5 c6 c7 f => ⟨c0, c1, c2, c3, c4, f c5, c6, c7⟩) t f) (fun f t => N8.rec (motive := fun _ => (H2 → H2) → N8 (H2)) (fun c0 c1 c2 c3 c4 c5 c6 c7 f => ⟨c0, c1, c2, c3, c4, c5, f c6, c7⟩) t f) (fun f t => N8.rec (motive := fun _ => (H2 → H2) → N8 (H2)) (fun c0 c1 c2 c3 c4 c5 c6 c7 f => ⟨c0, c1, c2, c3, c4, c5, c6, f c7⟩) t f) d f t
noncomputable def gH3 (d : Dg) (t : N8 (H3)) : H3 := Dg.rec (motive := fun _ => N8 (H3) → H3) (fun t => t.c0) (fun t => t.c1) (fun t => t.c2) (fun t => t.c3) (fun t => t.c4) (fun t => t.c5) (fun t => t.c6) (fun t => t.c7) d t
noncomputable def uH3 (d : Dg) (f : H3 → H3) (t : N8 (H3)) : N8 (H3) := Dg.rec (motive := fun _ => (H3 → H3) → N8 (H3) → N8 (H3)) (fun f t => N8.rec (motive := fun _ => (H3 → H3) → N8 (H3)) (fun c0 c1 c2 c3 c4 c5 c6 c7 f => ⟨f c0, c1, c2, c3, c4, c5, c6, c7⟩) t f) (fun f t => N8.rec (motive := fun _ => (H3 → H3) → N8 (H3)) (fun c0 c1 c2 c3 c4 c5 c6 c7 f => ⟨c0, f c1, c2, c3, c4, c5, c6, c7⟩) t f) (fun f t => N8.rec (motive := fun _ => (H3 → H3) → N8 (H3)) (fun c0 c1 c2 c3 c4 c5 c6 c7 f => ⟨c0, c1, f c2, c3, c4, c5, c6, c7⟩) t f) (fun f t => N8.rec (motive := fun _ => (H3 → H3) → N8 (H3)) (fun c0 c1 c2 c3 c4 c5 c6 c7 f => ⟨c0, c1, c2, f c3, c4, c5, c6, c7⟩) t f) (fun f t => N8.rec (motive := fun _ => (H3 → H3) → N8 (H3)) (fun c0 c1 c2 c3 c4 c5 c6 c7 f => ⟨c0, c1, c2, c3, f c4, c5, c6, c7⟩) t f) (fun f t => N8.rec (motive := fun _ => (H3 → H3) → N8 (H3)) (fun c0 c1 c2 c3 c4 c5 c6 c7 f => ⟨c0, c1, c2, c3, c4, f c5, c6, c7⟩) t f) (fun f t => N8.rec (motive := fun _ => (H3 → H3) → N8 (H3)) (fun c0 c1 c2 c3 c4 c5 c6 c7 f => ⟨c0, c1, c2, c3, c4, c5, f c6, c7⟩) t f) (fun f t => N8.rec (motive := fun _ => (H3 → H3) → N8 (H3)) (fun c0 c1 c2 c3 c4 c5 c6 c7 f => ⟨c0, c1, c2, c3, c4, c5, c6, f c7⟩) t f) d f t
noncomputable def gH4 (d : Dg) (t : N8 (H4)) : H4 := Dg.rec (motive := fun _ => N8 (H4) → H4) (fun t => t.c0) (fun t => t.c1) (fun t => t.c2) (fun t => t.c3) (fun t => t.c4) (fun t => t.c5) (fun t => t.c6) (fun t => t.c7) d t
noncomputable def uH4 (d : Dg) (f : H4 → H4) (t : N8 (H4)) : N8 (H4) := Dg.rec (motive := fun _ => (H4 → H4) → N8 (H4) → N8 (H4)) (fun f t => N8.rec (motive := fun _ => (H4 → H4) → N8 (H4)) (fun c0 c1 c2 c3 c4 c5 c6 c7 f => ⟨f c0, c1, c2, c3, c4, c5, c6, c7⟩) t f) (fun f t => N8.rec (motive := fun _ => (H4 → H4) → N8 (H4)) (fun c0 c1 c2 c3 c4 c5 c6 c7 f => ⟨c0, f c1, c2, c3, c4, c5, c6, c7⟩) t f) (fun f t => N8.rec (motive := fun _ => (H4 → H4) → N8 (H4)) (fun c0 c1 c2 c3 c4 c5 c6 c7 f => ⟨c0, c1, f c2, c3, c4, c5, c6, c7⟩) t f) (fun f t => N8.rec (motive := fun _ => (H4 → H4) → N8 (H4)) (fun c0 c1 c2 c3 c4 c5 c6 c7 f => ⟨c0, c1, c2, f c3, c4, c5, c6, c7⟩) t f) (fun f t => N8.rec (motive := fun _ => (H4 → H4) → N8 (H4)) (fun c0 c1 c2 c3 c4 c5 c6 c7 f => ⟨c0, c1, c2, c3, f c4, c5, c6, c7⟩) t f) (fun f t => N8.rec (motive := fun _ => (H4 → H4) → N8 (H4)) (fun c0 c1 c2 c3 c4 c5 c6 c7 f => ⟨c0, c1, c2, c3, c4, f c5, c6, c7⟩) t f) (fun f t => N8.rec (motive := fun _ => (H4 → H4) → N8 (H4)) (fun c0 c1 c2 c3 c4 c5 c6 c7 f => ⟨c0, c1, c2, c3, c4, c5, f c6, c7⟩) t f) (fun f t => N8.rec (motive := fun _ => (H4 → H4) → N8 (H4)) (fun c0 c1 c2 c3 c4 c5 c6 c7 f => ⟨c0, c1, c2, c3, c4, c5, c6, f c7⟩) t f) d f t
noncomputable def gH5 (d : Dg) (t : N8 (H5)) : H5 := Dg.rec (motive := fun _ => N8 (H5) → H5) (fun t => t.c0) (fun t => t.c1) (fun t => t.c2) (fun t => t.c3) (fun t => t.c4) (fun t => t.c5) (fun t => t.c6) (fun t => t.c7) d t
noncomputable def uH5 (d : Dg) (f : H5 → H5) (t : N8 (H5)) : N8 (H5) := Dg.rec (motive := fun _ => (H5 → H5) → N8 (H5) → N8 (H5)) (fun f t => N8.rec (motive := fun _ => (H5 → H5) → N8 (H5)) (fun c0 c1 c2 c3 c4 c5 c6 c7 f => ⟨f c0, c1, c2, c3, c4, c5, c6, c7⟩) t f) (fun f t => N8.rec (motive := fun _ => (H5 → H5) → N8 (H5)) (fun c0 c1 c2 c3 c4 c5 c6 c7 f => ⟨c0, f c1, c2, c3, c4, c5, c6, c7⟩) t f) (fun f t => N8.rec (motive := fun _ => (H5 → H5) → N8 (H5)) (fun c0 c1 c2 c3 c4 c5 c6 c7 f => ⟨c0, c1, f c2, c3, c4, c5, c6, c7⟩) t f) (fun f t => N8.rec (motive := fun _ => (H5 → H5) → N8 (H5)) (fun c0 c1 c2 c3 c4 c5 c6 c7 f => ⟨c0, c1, c2, f c3, c4, c5, c6, c7⟩) t f) (fun f t => N8.rec (motive := fun _ => (H5 → H5) → N8 (H5)) (fun c0 c1 c2 c3 c4 c5 c6 c7 f => ⟨c0, c1, c2, c3, f c4, c5, c6, c7⟩) t f) (fun f t => N8.rec (motive := fun _ => (H5 → H5) → N8 (H5)) (fun c0 c1 c2 c3 c4 c5 c6 c7 f => ⟨c0, c1, c2, c3, c4, f c5, c6, c7⟩) t f) (fun f t => N8.rec (motive := fun _ => (H5 → H5) → N8 (H5)) (fun c0 c1 c2 c3 c4 c5 c6 c7 f => ⟨c0, c1, c2, c3, c4, c5, f c6, c7⟩) t f) (fun f t => N8.rec (motive := fun _ => (H5 → H5) → N8 (H5)) (fun c0 c1 c2 c3 c4 c5 c6 c7 f => ⟨c0, c1, c2, c3, c4, c5, c6, f c7⟩) t f) d f t
noncomputable def look (id : Id) (h : H6) : OB := gB id.f (gH1 id.e (gH2 id.d (gH3 id.c (gH4 id.b (gH5 id.a h)))))
noncomputable def lay (id : Id) (b : OB) (h : H6) : H6 := uH5 id.a (uH4 id.b (uH3 id.c (uH2 id.d (uH1 id.e (uB id.f fun _ => b))))) h
structure St where
  tr : Bool
  h : H6
  n : Id
  r : List Rng
  w : List Rng

def M (α : Type) : Type := St → (α → St → Bool) → Bool
namespace M
def pure {α : Type} (a : α) : M α := fun s k => k a s
def no {α : Type} : M α := fun _ _ => false
def bind {α β : Type} (m : M α) (f : α → M β) : M β := fun s k => m s fun a t => f a t k
noncomputable def ofO {α β : Type} (o : Option α) (f : α → M β) : M β := Option.rec (motive := fun _ => (α → M β) → M β) (fun _ => no) (fun a f => f a) o f
noncomputable def ifB {β : Type} (b : Bool) (m : M β) : M β := Bool.rec (motive := fun _ => M β → M β) (fun _ => no) (fun m => m) b m
end M
/-- tell a read, a write, if they are told; go on -/
noncomputable def lgR (s : St) (id : Id) (lo m : Nat) (k : St → Bool) : Bool := Bool.rec (motive := fun _ => St → Id → Nat → Nat → (St → Bool) → Bool) (fun s _ _ _ k => k s)
  (fun s id lo m k => St.rec (motive := fun _ => Id → Nat → Nat → (St → Bool) → Bool) (fun _ h n r w id lo m k => k ⟨true, h, n, ⟨id, lo, m⟩ :: r, w⟩) s id lo m k) s.tr s id lo m k
noncomputable def lgW (s : St) (id : Id) (lo m : Nat) (k : St → Bool) : Bool := Bool.rec (motive := fun _ => St → Id → Nat → Nat → (St → Bool) → Bool) (fun s _ _ _ k => k s)
  (fun s id lo m k => St.rec (motive := fun _ => Id → Nat → Nat → (St → Bool) → Bool) (fun _ h n r w id lo m k => k ⟨true, h, n, r, ⟨id, lo, m⟩ :: w⟩) s id lo m k) s.tr s id lo m k
/-- another memory; go on -/
noncomputable def reH (s : St) (f : H6 → H6) (k : St → Bool) : Bool := St.rec (motive := fun _ => (H6 → H6) → (St → Bool) → Bool) (fun tr h n r w f k => k ⟨tr, f h, n, r, w⟩) s f k
noncomputable def reN (s : St) (f : H6 → H6) (n : Id) (k : St → Bool) : Bool := St.rec (motive := fun _ => (H6 → H6) → Id → (St → Bool) → Bool) (fun tr h _ r w f n k => k ⟨tr, f h, n, r, w⟩) s f n k
/-- the block, if it has m cells from lo on -/
noncomputable def hasB (id : Id) (top : Nat) (s : St) (k : Bk → Bool) : Bool := Option.rec (motive := fun _ => Nat → (Bk → Bool) → Bool) (fun _ _ => false)
  (fun b top k => Bool.rec (motive := fun _ => Bk → (Bk → Bool) → Bool) (fun _ _ => false) (fun b k => k b) (Nat.ble top b.n) b k) (look id s.h) top k
noncomputable def rd1 (id : Id) (off : Nat) : M AV := fun s k => hasB id (Nat.succ off) s fun b => lgR s id off 1 (k (getT b.t off))
noncomputable def rd (id : Id) (lo m : Nat) : M (List AV) := Bool.rec (motive := fun _ => Id → Nat → Nat → M (List AV)) (fun id lo m s k => hasB id (Nat.add lo m) s fun b => lgR s id lo m (k (getL m b.t lo))) (fun _ _ _ s k => k [] s) (Nat.beq m 0) id lo m
/-- a block's tree turned, its first node known -/
noncomputable def turn (b : Bk) (f : Tr → Tr) (k : Bk → Bool) : Bool := Bk.rec (motive := fun _ => (Tr → Tr) → (Bk → Bool) → Bool) (fun z n t f k => Tr.rec (motive := fun _ => Zf → Nat → (Bk → Bool) → Bool) (fun v z n k => k ⟨z, n, .t0 v⟩) (fun c z n k => k ⟨z, n, .t1 c⟩) (fun c z n k => k ⟨z, n, .t2 c⟩) (fun c z n k => k ⟨z, n, .t3 c⟩) (fun c z n k => k ⟨z, n, .t4 c⟩) (f t) z n k) b f k
noncomputable def wr1 (id : Id) (off : Nat) (v : AV) : M AV := fun s k => hasB id (Nat.succ off) s fun b => turn b (fun t => setT t off v) fun b => reH s (lay id (some b)) fun s => lgW s id off 1 (k und)
noncomputable def wrN (id : Id) (lo m : Nat) (l : List AV) : M Unit := fun s k => hasB id (Nat.add lo m) s fun b => turn b (putL l · lo) fun b => reH s (lay id (some b)) fun s => lgW s id lo m (k ())
noncomputable def wr (id : Id) (lo : Nat) (l : List AV) : M Unit := Bool.rec (motive := fun _ => Id → Nat → List AV → M Unit) (fun id lo l => wrN id lo (lnL l) l) (fun _ _ _ s k => k () s) (Nat.beq (lnL l) 0) id lo l
/-- the next name, its digits known -/
noncomputable def incA (a : Dg) (k : Id → Bool) : Bool := Dg.rec (motive := fun _ => (Id → Bool) → Bool) (fun k => k ⟨.d1, .d0, .d0, .d0, .d0, .d0⟩) (fun k => k ⟨.d2, .d0, .d0, .d0, .d0, .d0⟩) (fun k => k ⟨.d3, .d0, .d0, .d0, .d0, .d0⟩) (fun k => k ⟨.d4, .d0, .d0, .d0, .d0, .d0⟩) (fun k => k ⟨.d5, .d0, .d0, .d0, .d0, .d0⟩) (fun k => k ⟨.d6, .d0, .d0, .d0, .d0, .d0⟩) (fun k => k ⟨.d7, .d0, .d0, .d0, .d0, .d0⟩) (fun _ => false) a  k
noncomputable def incB (a b : Dg) (k : Id → Bool) : Bool := Dg.rec (motive := fun _ => Dg → (Id → Bool) → Bool) (fun a k => k ⟨a, .d1, .d0, .d0, .d0, .d0⟩) (fun a k => k ⟨a, .d2, .d0, .d0, .d0, .d0⟩) (fun a k => k ⟨a, .d3, .d0, .d0, .d0, .d0⟩) (fun a k => k ⟨a, .d4, .d0, .d0, .d0, .d0⟩) (fun a k => k ⟨a, .d5, .d0, .d0, .d0, .d0⟩) (fun a k => k ⟨a, .d6, .d0, .d0, .d0, .d0⟩) (fun a k => k ⟨a, .d7, .d0, .d0, .d0, .d0⟩) (fun a k => incA a k) b a k
noncomputable def incC (a b c : Dg) (k : Id → Bool) : Bool := Dg.rec (motive := fun _ => Dg → Dg → (Id → Bool) → Bool) (fun a b k => k ⟨a, b, .d1, .d0, .d0, .d0⟩) (fun a b k => k ⟨a, b, .d2, .d0, .d0, .d0⟩) (fun a b k => k ⟨a, b, .d3, .d0, .d0, .d0⟩) (fun a b k => k ⟨a, b, .d4, .d0, .d0, .d0⟩) (fun a b k => k ⟨a, b, .d5, .d0, .d0, .d0⟩) (fun a b k => k ⟨a, b, .d6, .d0, .d0, .d0⟩) (fun a b k => k ⟨a, b, .d7, .d0, .d0, .d0⟩) (fun a b k => incB a b k) c a b k
noncomputable def incD (a b c d : Dg) (k : Id → Bool) : Bool := Dg.rec (motive := fun _ => Dg → Dg → Dg → (Id → Bool) → Bool) (fun a b c k => k ⟨a, b, c, .d1, .d0, .d0⟩) (fun a b c k => k ⟨a, b, c, .d2, .d0, .d0⟩) (fun a b c k => k ⟨a, b, c, .d3, .d0, .d0⟩) (fun a b c k => k ⟨a, b, c, .d4, .d0, .d0⟩) (fun a b c k => k ⟨a, b, c, .d5, .d0, .d0⟩) (fun a b c k => k ⟨a, b, c, .d6, .d0, .d0⟩) (fun a b c k => k ⟨a, b, c, .d7, .d0, .d0⟩) (fun a b c k => incC a b c k) d a b c k
noncomputable def incE (a b c d e : Dg) (k : Id → Bool) : Bool := Dg.rec (motive := fun _ => Dg → Dg → Dg → Dg → (Id → Bool) → Bool) (fun a b c d k => k ⟨a, b, c, d, .d1, .d0⟩) (fun a b c d k => k ⟨a, b, c, d, .d2, .d0⟩) (fun a b c d k => k ⟨a, b, c, d, .d3, .d0⟩) (fun a b c d k => k ⟨a, b, c, d, .d4, .d0⟩) (fun a b c d k => k ⟨a, b, c, d, .d5, .d0⟩) (fun a b c d k => k ⟨a, b, c, d, .d6, .d0⟩) (fun a b c d k => k ⟨a, b, c, d, .d7, .d0⟩) (fun a b c d k => incD a b c d k) e a b c d k
noncomputable def incF (a b c d e f : Dg) (k : Id → Bool) : Bool := Dg.rec (motive := fun _ => Dg → Dg → Dg → Dg → Dg → (Id → Bool) → Bool) (fun a b c d e k => k ⟨a, b, c, d, e, .d1⟩) (fun a b c d e k => k ⟨a, b, c, d, e, .d2⟩) (fun a b c d e k => k ⟨a, b, c, d, e, .d3⟩) (fun a b c d e k => k ⟨a, b, c, d, e, .d4⟩) (fun a b c d e k => k ⟨a, b, c, d, e, .d5⟩) (fun a b c d e k => k ⟨a, b, c, d, e, .d6⟩) (fun a b c d e k => k ⟨a, b, c, d, e, .d7⟩) (fun a b c d e k => incE a b c d e k) f a b c d e k
noncomputable def incQ (i : Id) (k : Id → Bool) : Bool := Id.rec (motive := fun _ => (Id → Bool) → Bool) (fun a b c d e f k => incF a b c d e f k) i k
/-- a new block of a tree -/
noncomputable def newT (z : Zf) (n : Nat) (t : Tr) : M Id := fun s k => Bool.rec (motive := fun _ => Zf → Nat → Tr → St → (Id → St → Bool) → Bool) (fun _ _ _ _ _ => false)
  (fun z n t s k => incQ s.n fun i => reN s (lay s.n (some ⟨z, n, t⟩)) i fun s' => lgW s' s.n 0 (Nat.succ n) (k s.n)) (Nat.ble n (capT t)) z n t s k
noncomputable def new (z : Zf) (l : List AV) : M Id := newT z (lnL l) (toT l)
/-- a new block in an old one's place -/
noncomputable def over2 (i id : Id) (lo m : Nat) (l : List AV) (b : Bk) (s : St) (k : Id → St → Bool) (t : Tr) : Bool := Bool.rec (motive := fun _ => Id → Id → Nat → Nat → List AV → Bk → St → (Id → St → Bool) → Tr → Bool) (fun _ _ _ _ _ _ _ _ _ => false)
  (fun i id lo m l b s k t => reN s (fun h => lay s.n (some ⟨b.z.over lo, Nat.add m (lnL l), t⟩) (lay id none h)) i fun s' => lgR s' id 0 (Nat.succ b.n) fun s' => lgW s' id 0 (Nat.succ b.n) fun s' => lgW s' s.n 0 (Nat.succ (Nat.add m (lnL l))) (k s.n)) (Nat.ble (Nat.add m (lnL l)) (capT t)) i id lo m l b s k t
noncomputable def over (id : Id) (lo m : Nat) (l : List AV) : M Id := fun s k => hasB id (Nat.add lo m) s fun b => incQ s.n fun i => Bool.rec (motive := fun _ => Id → Id → Nat → Nat → List AV → Bk → St → (Id → St → Bool) → Bool)
    (fun i id lo m l b s k => over2 i id lo m l b s k (toT (apL (getL m b.t lo) l)))
    (fun i id lo m l b s k => over2 i id lo m l b s k (putL l (fitT 4 b.t (Nat.add m (lnL l))) m)) (Nat.beq lo 0) i id lo m l b s k
noncomputable def shared (id : Id) : M Zf := fun s k => hasB id 0 s fun b => lgR s id b.n 1 (k b.z)
noncomputable def ends (id : Id) : M (Zf × Nat) := fun s k => hasB id 0 s fun b => lgR s id b.n 1 (k (b.z, b.n))

noncomputable def pickF (c a b : AV) (s : St) (k : AV → St → Bool) : Bool := AV.rec (motive_1 := fun _ => AV → AV → St → (AV → St → Bool) → Bool) (motive_2 := fun _ => Unit) (fun t a b s k => Bool.rec (motive := fun _ => AV → AV → St → (AV → St → Bool) → Bool) (fun _ b s k => k b s) (fun a _ s k => k a s) t a b s k) (fun _ _ _ _ _ _ => false) (fun _ _ _ _ _ => false) (fun _ _ _ _ => false) (fun _ _ _ _ _ _ => false) (fun _ _ _ _ => false) (fun _ _ _ _ _ _ _ _ => false) (fun _ _ _ _ _ _ _ _ _ => false) (fun _ _ _ _ => false) (fun _ _ _ _ _ _ _ _ _ => false) (fun _ _ _ _ => false) (fun _ _ _ _ _ _ => false) (fun _ _ _ _ _ _ => false) () (fun _ _ _ _ => ()) c a b s k
noncomputable def ldF (x : AV) (s : St) (k : AV → St → Bool) : Bool := AV.rec (motive_1 := fun _ => St → (AV → St → Bool) → Bool) (motive_2 := fun _ => Unit) (fun _ _ _ => false) (fun _ _ _ _ => false) (fun _ _ _ => false) (fun _ _ => false) (fun id off s k => rd1 id off s k) (fun _ _ => false) (fun _ _ _ _ _ _ => false) (fun _ _ _ _ _ _ _ => false) (fun _ _ => false) (fun _ _ _ _ _ _ _ => false) (fun _ _ => false) (fun _ _ _ _ => false) (fun _ _ _ _ => false) () (fun _ _ _ _ => ()) x s k
noncomputable def ldnF (m : Nat) (x : AV) (s : St) (k : AV → St → Bool) : Bool := AV.rec (motive_1 := fun _ => Nat → St → (AV → St → Bool) → Bool) (motive_2 := fun _ => Unit) (fun _ _ _ _ => false) (fun _ _ _ _ _ => false) (fun _ _ _ _ => false) (fun _ _ _ => false) (fun id off m s k => rd id off m s fun l s => k (.ag l) s) (fun _ _ _ => false) (fun _ _ _ _ _ _ _ => false) (fun _ _ _ _ _ _ _ _ => false) (fun _ _ _ => false) (fun _ _ _ _ _ _ _ _ => false) (fun _ _ _ => false) (fun _ _ _ _ _ => false) (fun _ _ _ _ _ => false) () (fun _ _ _ _ => ()) x m s k
noncomputable def cellsK (m : Nat) (v : AV) (k : List AV → Bool) : Bool := AV.rec (motive_1 := fun _ => Nat → AV → (List AV → Bool) → Bool) (motive_2 := fun _ => Unit) (fun _ m v k => Bool.rec (motive := fun _ => AV → (List AV → Bool) → Bool) (fun _ _ => false) (fun v k => k [v]) (Nat.beq 1 m) v k) (fun _ _ m v k => Bool.rec (motive := fun _ => AV → (List AV → Bool) → Bool) (fun _ _ => false) (fun v k => k [v]) (Nat.beq 1 m) v k) (fun _ m v k => Bool.rec (motive := fun _ => AV → (List AV → Bool) → Bool) (fun _ _ => false) (fun v k => k [v]) (Nat.beq 1 m) v k) (fun m v k => Bool.rec (motive := fun _ => AV → (List AV → Bool) → Bool) (fun _ _ => false) (fun v k => k [v]) (Nat.beq 1 m) v k) (fun _ _ m v k => Bool.rec (motive := fun _ => AV → (List AV → Bool) → Bool) (fun _ _ => false) (fun v k => k [v]) (Nat.beq 1 m) v k) (fun m v k => Bool.rec (motive := fun _ => AV → (List AV → Bool) → Bool) (fun _ _ => false) (fun v k => k [v]) (Nat.beq 1 m) v k) (fun _ _ _ _ m v k => Bool.rec (motive := fun _ => AV → (List AV → Bool) → Bool) (fun _ _ => false) (fun v k => k [v]) (Nat.beq 1 m) v k) (fun _ _ _ _ _ m v k => Bool.rec (motive := fun _ => AV → (List AV → Bool) → Bool) (fun _ _ => false) (fun v k => k [v]) (Nat.beq 1 m) v k) (fun m v k => Bool.rec (motive := fun _ => AV → (List AV → Bool) → Bool) (fun _ _ => false) (fun v k => k [v]) (Nat.beq 1 m) v k) (fun _ _ _ _ _ m v k => Bool.rec (motive := fun _ => AV → (List AV → Bool) → Bool) (fun _ _ => false) (fun v k => k [v]) (Nat.beq 1 m) v k) (fun m v k => Bool.rec (motive := fun _ => AV → (List AV → Bool) → Bool) (fun _ _ => false) (fun v k => k [v]) (Nat.beq 1 m) v k) (fun xs _ m _ k => Bool.rec (motive := fun _ => List AV → (List AV → Bool) → Bool) (fun _ _ => false) (fun xs k => k xs) (Nat.beq (lnL xs) m) xs k) (fun _ _ _ _ _ => false) () (fun _ _ _ _ => ()) v m v k
noncomputable def st1 (id : Id) (off : Nat) (v : AV) (s : St) (k : AV → St → Bool) : Bool := AV.rec (motive_1 := fun _ => AV → Id → Nat → St → (AV → St → Bool) → Bool) (motive_2 := fun _ => Unit) (fun _ v id off s k => wr1 id off v s k) (fun _ _ v id off s k => wr1 id off v s k) (fun _ v id off s k => wr1 id off v s k) (fun v id off s k => wr1 id off v s k) (fun _ _ v id off s k => wr1 id off v s k) (fun v id off s k => wr1 id off v s k) (fun _ _ _ _ v id off s k => wr1 id off v s k) (fun _ _ _ _ _ v id off s k => wr1 id off v s k) (fun v id off s k => wr1 id off v s k) (fun _ _ _ _ _ v id off s k => wr1 id off v s k) (fun v id off s k => wr1 id off v s k) (fun xs _ v id off s k => cellsK 1 v fun l => wr id off l s fun _ s => k und s) (fun _ _ _ _ _ _ _ => false) () (fun _ _ _ _ => ()) v v id off s k
noncomputable def st1F (a v : AV) (s : St) (k : AV → St → Bool) : Bool := AV.rec (motive_1 := fun _ => AV → St → (AV → St → Bool) → Bool) (motive_2 := fun _ => Unit) (fun _ _ _ _ => false) (fun _ _ _ _ _ => false) (fun _ _ _ _ => false) (fun _ _ _ => false) (fun id off v s k => st1 id off v s k) (fun _ _ _ => false) (fun _ _ _ _ _ _ _ => false) (fun _ _ _ _ _ _ _ _ => false) (fun _ _ _ => false) (fun _ _ _ _ _ _ _ _ => false) (fun _ _ _ => false) (fun _ _ _ _ _ => false) (fun _ _ _ _ _ => false) () (fun _ _ _ _ => ()) a v s k
noncomputable def stnF (m : Nat) (a v : AV) (s : St) (k : AV → St → Bool) : Bool := AV.rec (motive_1 := fun _ => Nat → AV → St → (AV → St → Bool) → Bool) (motive_2 := fun _ => Unit) (fun _ _ _ _ _ => false) (fun _ _ _ _ _ _ => false) (fun _ _ _ _ _ => false) (fun _ _ _ _ => false) (fun id off m v s k => cellsK m v fun l => wr id off l s fun _ s => k und s) (fun _ _ _ _ => false) (fun _ _ _ _ _ _ _ _ => false) (fun _ _ _ _ _ _ _ _ _ => false) (fun _ _ _ _ => false) (fun _ _ _ _ _ _ _ _ _ => false) (fun _ _ _ _ => false) (fun _ _ _ _ _ _ => false) (fun _ _ _ _ _ _ => false) () (fun _ _ _ _ => ()) a m v s k
noncomputable def fadF (o : Nat) (x : AV) (s : St) (k : AV → St → Bool) : Bool := AV.rec (motive_1 := fun _ => Nat → St → (AV → St → Bool) → Bool) (motive_2 := fun _ => Unit) (fun _ _ _ _ => false) (fun _ _ _ _ _ => false) (fun _ _ _ _ => false) (fun _ _ _ => false) (fun id off o s k => k (.p id (Nat.add off o)) s) (fun _ _ _ => false) (fun _ _ _ _ _ _ _ => false) (fun _ _ _ _ _ _ _ _ => false) (fun _ _ _ => false) (fun _ _ _ _ _ _ _ _ => false) (fun _ _ _ => false) (fun _ _ _ _ _ => false) (fun _ _ _ _ _ => false) () (fun _ _ _ _ => ()) x o s k
noncomputable def nilF (x : AV) (s : St) (k : AV → St → Bool) : Bool := AV.rec (motive_1 := fun _ => AV → St → (AV → St → Bool) → Bool) (motive_2 := fun _ => Unit) (fun _ _ _ _ => false) (fun _ _ _ _ _ => false) (fun _ _ _ _ => false) (fun _ _ _ => false) (fun _ _ x s k => k x s) (fun _ _ _ => false) (fun _ _ _ _ _ _ _ => false) (fun _ _ _ _ _ _ _ _ => false) (fun _ _ _ => false) (fun _ _ _ _ _ x s k => k x s) (fun _ _ _ => false) (fun _ _ _ _ _ => false) (fun _ _ _ _ _ => false) () (fun _ _ _ _ => ()) x x s k
noncomputable def ixs3 (w a len : Nat) (id : Id) (off : Nat) (s : St) (k : AV → St → Bool) : Bool := Bool.rec (motive := fun _ => Nat → Nat → Id → Nat → St → (AV → St → Bool) → Bool) (fun _ _ _ _ _ _ => false) (fun w a id off s k => k (.p id (Nat.add off (Nat.mul a w))) s) (Nat.blt a len) w a id off s k
noncomputable def ixs2 (w a : Nat) (x : AV) (s : St) (k : AV → St → Bool) : Bool := AV.rec (motive_1 := fun _ => Nat → Nat → St → (AV → St → Bool) → Bool) (motive_2 := fun _ => Unit) (fun _ _ _ _ _ => false) (fun _ _ _ _ _ _ => false) (fun _ _ _ _ _ => false) (fun _ _ _ _ => false) (fun _ _ _ _ _ _ => false) (fun _ _ _ _ => false) (fun id off len _ w a s k => ixs3 w a len id off s k) (fun id off len _ _ w a s k => ixs3 w a len id off s k) (fun _ _ _ _ => false) (fun _ _ _ _ _ _ _ _ _ => false) (fun _ _ _ _ => false) (fun _ _ _ _ _ _ => false) (fun _ _ _ _ _ _ => false) () (fun _ _ _ _ => ()) x w a s k
noncomputable def ixa2 (n w a : Nat) (x : AV) (s : St) (k : AV → St → Bool) : Bool := AV.rec (motive_1 := fun _ => Nat → Nat → Nat → St → (AV → St → Bool) → Bool) (motive_2 := fun _ => Unit) (fun _ _ _ _ _ _ => false) (fun _ _ _ _ _ _ _ => false) (fun _ _ _ _ _ _ => false) (fun _ _ _ _ _ => false) (fun id off n w a s k => ixs3 w a n id off s k) (fun _ _ _ _ _ => false) (fun _ _ _ _ _ _ _ _ _ => false) (fun _ _ _ _ _ _ _ _ _ _ => false) (fun _ _ _ _ _ => false) (fun _ _ _ _ _ _ _ _ _ _ => false) (fun _ _ _ _ _ => false) (fun _ _ _ _ _ _ _ => false) (fun _ _ _ _ _ _ _ => false) () (fun _ _ _ _ => ()) x n w a s k
noncomputable def ixsF (w : Nat) (x i : AV) (s : St) (k : AV → St → Bool) : Bool := AV.rec (motive_1 := fun _ => Nat → AV → St → (AV → St → Bool) → Bool) (motive_2 := fun _ => Unit) (fun _ _ _ _ _ => false) (fun _ a w x s k => Int.rec (motive := fun _ => Nat → AV → St → (AV → St → Bool) → Bool) (fun a w x s k => ixs2 w a x s k) (fun _ _ _ _ _ => false) a w x s k) (fun _ _ _ _ _ => false) (fun _ _ _ _ => false) (fun _ _ _ _ _ _ => false) (fun _ _ _ _ => false) (fun _ _ _ _ _ _ _ _ => false) (fun _ _ _ _ _ _ _ _ _ => false) (fun _ _ _ _ => false) (fun _ _ _ _ _ _ _ _ _ => false) (fun _ _ _ _ => false) (fun _ _ _ _ _ _ => false) (fun _ _ _ _ _ _ => false) () (fun _ _ _ _ => ()) i w x s k
noncomputable def ixaF (n w : Nat) (x i : AV) (s : St) (k : AV → St → Bool) : Bool := AV.rec (motive_1 := fun _ => Nat → Nat → AV → St → (AV → St → Bool) → Bool) (motive_2 := fun _ => Unit) (fun _ _ _ _ _ _ => false) (fun _ a n w x s k => Int.rec (motive := fun _ => Nat → Nat → AV → St → (AV → St → Bool) → Bool) (fun a n w x s k => ixa2 n w a x s k) (fun _ _ _ _ _ _ => false) a n w x s k) (fun _ _ _ _ _ _ => false) (fun _ _ _ _ _ => false) (fun _ _ _ _ _ _ _ => false) (fun _ _ _ _ _ => false) (fun _ _ _ _ _ _ _ _ _ => false) (fun _ _ _ _ _ _ _ _ _ _ => false) (fun _ _ _ _ _ => false) (fun _ _ _ _ _ _ _ _ _ _ => false) (fun _ _ _ _ _ => false) (fun _ _ _ _ _ _ _ => false) (fun _ _ _ _ _ _ _ => false) () (fun _ _ _ _ => ()) i n w x s k
/-- a - b -/
noncomputable def sbN (a b : Nat) : Int := Bool.rec (motive := fun _ => Nat → Nat → Int) (fun a b => .negSucc (Nat.sub (Nat.sub b a) 1)) (fun a b => .ofNat (Nat.sub a b)) (Nat.ble b a) a b
noncomputable def addI (x y : Int) : Int := Int.rec (motive := fun _ => Int → Int) (fun a y => Int.rec (motive := fun _ => Nat → Int) (fun b a => .ofNat (Nat.add a b)) (fun b a => sbN a (Nat.succ b)) y a) (fun a y => Int.rec (motive := fun _ => Nat → Int) (fun b a => sbN b (Nat.succ a)) (fun b a => .negSucc (Nat.succ (Nat.add a b))) y a) x y
noncomputable def subI (x y : Int) : Int := Int.rec (motive := fun _ => Int → Int) (fun a y => Int.rec (motive := fun _ => Nat → Int) (fun b a => sbN a b) (fun b a => .ofNat (Nat.add a (Nat.succ b))) y a) (fun a y => Int.rec (motive := fun _ => Nat → Int) (fun b a => .negSucc (Nat.add a b)) (fun b a => sbN b a) y a) x y
noncomputable def leI (x y : Int) : Bool := Int.rec (motive := fun _ => Int → Bool) (fun a y => Int.rec (motive := fun _ => Nat → Bool) (fun b a => Nat.ble a b) (fun b a => false) y a) (fun a y => Int.rec (motive := fun _ => Nat → Bool) (fun b a => true) (fun b a => Nat.ble b a) y a) x y
noncomputable def eqI (x y : Int) : Bool := Int.rec (motive := fun _ => Int → Bool) (fun a y => Int.rec (motive := fun _ => Nat → Bool) (fun b a => Nat.beq a b) (fun b a => false) y a) (fun a y => Int.rec (motive := fun _ => Nat → Bool) (fun b a => false) (fun b a => Nat.beq a b) y a) x y
noncomputable def kxQ (k : IntKind) : Nat := IntKind.rec (motive := fun _ => Nat) 0 1 2 3 4 5 6 7 k
/-- wrapped, and on -/
noncomputable def wrK (kk : IntKind) (x : Int) (s : St) (k : AV → St → Bool) : Bool := IntKind.rec (motive := fun _ => IntKind → Int → St → (AV → St → Bool) → Bool) (fun kk x s k => Int.rec (motive := fun _ => IntKind → St → (AV → St → Bool) → Bool) (fun a kk s k => Bool.rec (motive := fun _ => Nat → IntKind → St → (AV → St → Bool) → Bool) (fun a kk s k => k (.i kk (wrapS 256 (Nat.mod a 256))) s) (fun a kk s k => k (.i kk (.ofNat a)) s) (Nat.blt a 128) a kk s k) (fun a kk s k => Bool.rec (motive := fun _ => Nat → IntKind → St → (AV → St → Bool) → Bool) (fun a kk s k => k (.i kk (wrapS 256 (Nat.sub 255 (Nat.mod a 256)))) s) (fun a kk s k => k (.i kk (.negSucc a)) s) (Nat.blt a 128) a kk s k) x kk s k) (fun kk x s k => Int.rec (motive := fun _ => IntKind → St → (AV → St → Bool) → Bool) (fun a kk s k => Bool.rec (motive := fun _ => Nat → IntKind → St → (AV → St → Bool) → Bool) (fun a kk s k => k (.i kk (wrapS 65536 (Nat.mod a 65536))) s) (fun a kk s k => k (.i kk (.ofNat a)) s) (Nat.blt a 32768) a kk s k) (fun a kk s k => Bool.rec (motive := fun _ => Nat → IntKind → St → (AV → St → Bool) → Bool) (fun a kk s k => k (.i kk (wrapS 65536 (Nat.sub 65535 (Nat.mod a 65536)))) s) (fun a kk s k => k (.i kk (.negSucc a)) s) (Nat.blt a 32768) a kk s k) x kk s k) (fun kk x s k => Int.rec (motive := fun _ => IntKind → St → (AV → St → Bool) → Bool) (fun a kk s k => Bool.rec (motive := fun _ => Nat → IntKind → St → (AV → St → Bool) → Bool) (fun a kk s k => k (.i kk (wrapS 4294967296 (Nat.mod a 4294967296))) s) (fun a kk s k => k (.i kk (.ofNat a)) s) (Nat.blt a 2147483648) a kk s k) (fun a kk s k => Bool.rec (motive := fun _ => Nat → IntKind → St → (AV → St → Bool) → Bool) (fun a kk s k => k (.i kk (wrapS 4294967296 (Nat.sub 4294967295 (Nat.mod a 4294967296)))) s) (fun a kk s k => k (.i kk (.negSucc a)) s) (Nat.blt a 2147483648) a kk s k) x kk s k) (fun kk x s k => Int.rec (motive := fun _ => IntKind → St → (AV → St → Bool) → Bool) (fun a kk s k => Bool.rec (motive := fun _ => Nat → IntKind → St → (AV → St → Bool) → Bool) (fun a kk s k => k (.i kk (wrapS 18446744073709551616 (Nat.mod a 18446744073709551616))) s) (fun a kk s k => k (.i kk (.ofNat a)) s) (Nat.blt a 9223372036854775808) a kk s k) (fun a kk s k => Bool.rec (motive := fun _ => Nat → IntKind → St → (AV → St → Bool) → Bool) (fun a kk s k => k (.i kk (wrapS 18446744073709551616 (Nat.sub 18446744073709551615 (Nat.mod a 18446744073709551616)))) s) (fun a kk s k => k (.i kk (.negSucc a)) s) (Nat.blt a 9223372036854775808) a kk s k) x kk s k) (fun kk x s k => Int.rec (motive := fun _ => IntKind → St → (AV → St → Bool) → Bool) (fun a kk s k => Bool.rec (motive := fun _ => Nat → IntKind → St → (AV → St → Bool) → Bool) (fun a kk s k => k (.i kk (.ofNat (Nat.mod a 256))) s) (fun a kk s k => k (.i kk (.ofNat a)) s) (Nat.blt a 256) a kk s k) (fun a kk s k => k (.i kk (.ofNat (Nat.sub 255 (Nat.mod a 256)))) s) x kk s k) (fun kk x s k => Int.rec (motive := fun _ => IntKind → St → (AV → St → Bool) → Bool) (fun a kk s k => Bool.rec (motive := fun _ => Nat → IntKind → St → (AV → St → Bool) → Bool) (fun a kk s k => k (.i kk (.ofNat (Nat.mod a 65536))) s) (fun a kk s k => k (.i kk (.ofNat a)) s) (Nat.blt a 65536) a kk s k) (fun a kk s k => k (.i kk (.ofNat (Nat.sub 65535 (Nat.mod a 65536)))) s) x kk s k) (fun kk x s k => Int.rec (motive := fun _ => IntKind → St → (AV → St → Bool) → Bool) (fun a kk s k => Bool.rec (motive := fun _ => Nat → IntKind → St → (AV → St → Bool) → Bool) (fun a kk s k => k (.i kk (.ofNat (Nat.mod a 4294967296))) s) (fun a kk s k => k (.i kk (.ofNat a)) s) (Nat.blt a 4294967296) a kk s k) (fun a kk s k => k (.i kk (.ofNat (Nat.sub 4294967295 (Nat.mod a 4294967296)))) s) x kk s k) (fun kk x s k => Int.rec (motive := fun _ => IntKind → St → (AV → St → Bool) → Bool) (fun a kk s k => Bool.rec (motive := fun _ => Nat → IntKind → St → (AV → St → Bool) → Bool) (fun a kk s k => k (.i kk (.ofNat (Nat.mod a 18446744073709551616))) s) (fun a kk s k => k (.i kk (.ofNat a)) s) (Nat.blt a 18446744073709551616) a kk s k) (fun a kk s k => k (.i kk (.ofNat (Nat.sub 18446744073709551615 (Nat.mod a 18446744073709551616)))) s) x kk s k) kk kk x s k
noncomputable def boK (b : Bool) (s : St) (k : AV → St → Bool) : Bool := Bool.rec (motive := fun _ => St → (AV → St → Bool) → Bool) (fun s k => k (.b false) s) (fun s k => k (.b true) s) b s k
noncomputable def boN (b : Bool) (s : St) (k : AV → St → Bool) : Bool := Bool.rec (motive := fun _ => St → (AV → St → Bool) → Bool) (fun s k => k (.b true) s) (fun s k => k (.b false) s) b s k
noncomputable def strF (o : BinOp) (x : List Nat) (y : AV) : M AV := match y with
  | .s y => match o with
    | .eql => M.pure (.b (eqL x y))
    | .neq => M.pure (.b (!eqL x y))
    | .add => M.ifB (Nat.ble (x.length + y.length) lim) (M.pure (.s (x ++ y)))
    | _ => M.no
  | _ => M.no
noncomputable def intF (o : BinOp) (k : IntKind) (a : Int) (k' : IntKind) (b : Int) : M AV := match o with
  | .shl => M.ofO (shl k a b) M.pure
  | .shr => M.ofO (shr k a b) M.pure
  | o => M.ifB (keq k k') (M.ofO (ari o k a b) M.pure)
noncomputable def binF (o : BinOp) (x y : AV) : M AV := match x with
  | .i k a => match y with
    | .i k' b => intF o k a k' b
    | _ => M.no
  | .s x => strF o x y
  | _ => M.no
noncomputable def addF (x y : AV) (s : St) (k : AV → St → Bool) : Bool := AV.rec (motive_1 := fun _ => AV → St → (AV → St → Bool) → Bool) (motive_2 := fun _ => Unit) (fun _ _ _ _ => false) (fun kk x y s k => AV.rec (motive_1 := fun _ => IntKind → Int → St → (AV → St → Bool) → Bool) (motive_2 := fun _ => Unit) (fun _ _ _ _ _ => false) (fun ky y kk x s k => Bool.rec (motive := fun _ => IntKind → Int → Int → St → (AV → St → Bool) → Bool) (fun _ _ _ _ _ => false) (fun kk x y s k => wrK kk (addI x y) s k) (Nat.beq (kxQ kk) (kxQ ky)) kk x y s k) (fun _ _ _ _ _ => false) (fun _ _ _ _ => false) (fun _ _ _ _ _ _ => false) (fun _ _ _ _ => false) (fun _ _ _ _ _ _ _ _ => false) (fun _ _ _ _ _ _ _ _ _ => false) (fun _ _ _ _ => false) (fun _ _ _ _ _ _ _ _ _ => false) (fun _ _ _ _ => false) (fun _ _ _ _ _ _ => false) (fun _ _ _ _ _ _ => false) () (fun _ _ _ _ => ()) y kk x s k) (fun x y s k => strF .add x y s k) (fun _ _ _ => false) (fun _ _ _ _ _ => false) (fun _ _ _ => false) (fun _ _ _ _ _ _ _ => false) (fun _ _ _ _ _ _ _ _ => false) (fun _ _ _ => false) (fun _ _ _ _ _ _ _ _ => false) (fun _ _ _ => false) (fun _ _ _ _ _ => false) (fun _ _ _ _ _ => false) () (fun _ _ _ _ => ()) x y s k
noncomputable def subF (x y : AV) (s : St) (k : AV → St → Bool) : Bool := AV.rec (motive_1 := fun _ => AV → St → (AV → St → Bool) → Bool) (motive_2 := fun _ => Unit) (fun _ _ _ _ => false) (fun kk x y s k => AV.rec (motive_1 := fun _ => IntKind → Int → St → (AV → St → Bool) → Bool) (motive_2 := fun _ => Unit) (fun _ _ _ _ _ => false) (fun ky y kk x s k => Bool.rec (motive := fun _ => IntKind → Int → Int → St → (AV → St → Bool) → Bool) (fun _ _ _ _ _ => false) (fun kk x y s k => wrK kk (subI x y) s k) (Nat.beq (kxQ kk) (kxQ ky)) kk x y s k) (fun _ _ _ _ _ => false) (fun _ _ _ _ => false) (fun _ _ _ _ _ _ => false) (fun _ _ _ _ => false) (fun _ _ _ _ _ _ _ _ => false) (fun _ _ _ _ _ _ _ _ _ => false) (fun _ _ _ _ => false) (fun _ _ _ _ _ _ _ _ _ => false) (fun _ _ _ _ => false) (fun _ _ _ _ _ _ => false) (fun _ _ _ _ _ _ => false) () (fun _ _ _ _ => ()) y kk x s k) (fun x y s k => strF .sub x y s k) (fun _ _ _ => false) (fun _ _ _ _ _ => false) (fun _ _ _ => false) (fun _ _ _ _ _ _ _ => false) (fun _ _ _ _ _ _ _ _ => false) (fun _ _ _ => false) (fun _ _ _ _ _ _ _ _ => false) (fun _ _ _ => false) (fun _ _ _ _ _ => false) (fun _ _ _ _ _ => false) () (fun _ _ _ _ => ()) x y s k
noncomputable def eqlF (x y : AV) (s : St) (k : AV → St → Bool) : Bool := AV.rec (motive_1 := fun _ => AV → St → (AV → St → Bool) → Bool) (motive_2 := fun _ => Unit) (fun _ _ _ _ => false) (fun kk x y s k => AV.rec (motive_1 := fun _ => IntKind → Int → St → (AV → St → Bool) → Bool) (motive_2 := fun _ => Unit) (fun _ _ _ _ _ => false) (fun ky y kk x s k => Bool.rec (motive := fun _ => IntKind → Int → Int → St → (AV → St → Bool) → Bool) (fun _ _ _ _ _ => false) (fun kk x y s k => boK (eqI x y) s k) (Nat.beq (kxQ kk) (kxQ ky)) kk x y s k) (fun _ _ _ _ _ => false) (fun _ _ _ _ => false) (fun _ _ _ _ _ _ => false) (fun _ _ _ _ => false) (fun _ _ _ _ _ _ _ _ => false) (fun _ _ _ _ _ _ _ _ _ => false) (fun _ _ _ _ => false) (fun _ _ _ _ _ _ _ _ _ => false) (fun _ _ _ _ => false) (fun _ _ _ _ _ _ => false) (fun _ _ _ _ _ _ => false) () (fun _ _ _ _ => ()) y kk x s k) (fun x y s k => strF .eql x y s k) (fun _ _ _ => false) (fun _ _ _ _ _ => false) (fun _ _ _ => false) (fun _ _ _ _ _ _ _ => false) (fun _ _ _ _ _ _ _ _ => false) (fun _ _ _ => false) (fun _ _ _ _ _ _ _ _ => false) (fun _ _ _ => false) (fun _ _ _ _ _ => false) (fun _ _ _ _ _ => false) () (fun _ _ _ _ => ()) x y s k
noncomputable def neqF (x y : AV) (s : St) (k : AV → St → Bool) : Bool := AV.rec (motive_1 := fun _ => AV → St → (AV → St → Bool) → Bool) (motive_2 := fun _ => Unit) (fun _ _ _ _ => false) (fun kk x y s k => AV.rec (motive_1 := fun _ => IntKind → Int → St → (AV → St → Bool) → Bool) (motive_2 := fun _ => Unit) (fun _ _ _ _ _ => false) (fun ky y kk x s k => Bool.rec (motive := fun _ => IntKind → Int → Int → St → (AV → St → Bool) → Bool) (fun _ _ _ _ _ => false) (fun kk x y s k => boN (eqI x y) s k) (Nat.beq (kxQ kk) (kxQ ky)) kk x y s k) (fun _ _ _ _ _ => false) (fun _ _ _ _ => false) (fun _ _ _ _ _ _ => false) (fun _ _ _ _ => false) (fun _ _ _ _ _ _ _ _ => false) (fun _ _ _ _ _ _ _ _ _ => false) (fun _ _ _ _ => false) (fun _ _ _ _ _ _ _ _ _ => false) (fun _ _ _ _ => false) (fun _ _ _ _ _ _ => false) (fun _ _ _ _ _ _ => false) () (fun _ _ _ _ => ()) y kk x s k) (fun x y s k => strF .neq x y s k) (fun _ _ _ => false) (fun _ _ _ _ _ => false) (fun _ _ _ => false) (fun _ _ _ _ _ _ _ => false) (fun _ _ _ _ _ _ _ _ => false) (fun _ _ _ => false) (fun _ _ _ _ _ _ _ _ => false) (fun _ _ _ => false) (fun _ _ _ _ _ => false) (fun _ _ _ _ _ => false) () (fun _ _ _ _ => ()) x y s k
noncomputable def lssF (x y : AV) (s : St) (k : AV → St → Bool) : Bool := AV.rec (motive_1 := fun _ => AV → St → (AV → St → Bool) → Bool) (motive_2 := fun _ => Unit) (fun _ _ _ _ => false) (fun kk x y s k => AV.rec (motive_1 := fun _ => IntKind → Int → St → (AV → St → Bool) → Bool) (motive_2 := fun _ => Unit) (fun _ _ _ _ _ => false) (fun ky y kk x s k => Bool.rec (motive := fun _ => IntKind → Int → Int → St → (AV → St → Bool) → Bool) (fun _ _ _ _ _ => false) (fun kk x y s k => boN (leI y x) s k) (Nat.beq (kxQ kk) (kxQ ky)) kk x y s k) (fun _ _ _ _ _ => false) (fun _ _ _ _ => false) (fun _ _ _ _ _ _ => false) (fun _ _ _ _ => false) (fun _ _ _ _ _ _ _ _ => false) (fun _ _ _ _ _ _ _ _ _ => false) (fun _ _ _ _ => false) (fun _ _ _ _ _ _ _ _ _ => false) (fun _ _ _ _ => false) (fun _ _ _ _ _ _ => false) (fun _ _ _ _ _ _ => false) () (fun _ _ _ _ => ()) y kk x s k) (fun x y s k => strF .lss x y s k) (fun _ _ _ => false) (fun _ _ _ _ _ => false) (fun _ _ _ => false) (fun _ _ _ _ _ _ _ => false) (fun _ _ _ _ _ _ _ _ => false) (fun _ _ _ => false) (fun _ _ _ _ _ _ _ _ => false) (fun _ _ _ => false) (fun _ _ _ _ _ => false) (fun _ _ _ _ _ => false) () (fun _ _ _ _ => ()) x y s k
noncomputable def leqF (x y : AV) (s : St) (k : AV → St → Bool) : Bool := AV.rec (motive_1 := fun _ => AV → St → (AV → St → Bool) → Bool) (motive_2 := fun _ => Unit) (fun _ _ _ _ => false) (fun kk x y s k => AV.rec (motive_1 := fun _ => IntKind → Int → St → (AV → St → Bool) → Bool) (motive_2 := fun _ => Unit) (fun _ _ _ _ _ => false) (fun ky y kk x s k => Bool.rec (motive := fun _ => IntKind → Int → Int → St → (AV → St → Bool) → Bool) (fun _ _ _ _ _ => false) (fun kk x y s k => boK (leI x y) s k) (Nat.beq (kxQ kk) (kxQ ky)) kk x y s k) (fun _ _ _ _ _ => false) (fun _ _ _ _ => false) (fun _ _ _ _ _ _ => false) (fun _ _ _ _ => false) (fun _ _ _ _ _ _ _ _ => false) (fun _ _ _ _ _ _ _ _ _ => false) (fun _ _ _ _ => false) (fun _ _ _ _ _ _ _ _ _ => false) (fun _ _ _ _ => false) (fun _ _ _ _ _ _ => false) (fun _ _ _ _ _ _ => false) () (fun _ _ _ _ => ()) y kk x s k) (fun x y s k => strF .leq x y s k) (fun _ _ _ => false) (fun _ _ _ _ _ => false) (fun _ _ _ => false) (fun _ _ _ _ _ _ _ => false) (fun _ _ _ _ _ _ _ _ => false) (fun _ _ _ => false) (fun _ _ _ _ _ _ _ _ => false) (fun _ _ _ => false) (fun _ _ _ _ _ => false) (fun _ _ _ _ _ => false) () (fun _ _ _ _ => ()) x y s k
noncomputable def gtrF (x y : AV) (s : St) (k : AV → St → Bool) : Bool := AV.rec (motive_1 := fun _ => AV → St → (AV → St → Bool) → Bool) (motive_2 := fun _ => Unit) (fun _ _ _ _ => false) (fun kk x y s k => AV.rec (motive_1 := fun _ => IntKind → Int → St → (AV → St → Bool) → Bool) (motive_2 := fun _ => Unit) (fun _ _ _ _ _ => false) (fun ky y kk x s k => Bool.rec (motive := fun _ => IntKind → Int → Int → St → (AV → St → Bool) → Bool) (fun _ _ _ _ _ => false) (fun kk x y s k => boN (leI x y) s k) (Nat.beq (kxQ kk) (kxQ ky)) kk x y s k) (fun _ _ _ _ _ => false) (fun _ _ _ _ => false) (fun _ _ _ _ _ _ => false) (fun _ _ _ _ => false) (fun _ _ _ _ _ _ _ _ => false) (fun _ _ _ _ _ _ _ _ _ => false) (fun _ _ _ _ => false) (fun _ _ _ _ _ _ _ _ _ => false) (fun _ _ _ _ => false) (fun _ _ _ _ _ _ => false) (fun _ _ _ _ _ _ => false) () (fun _ _ _ _ => ()) y kk x s k) (fun x y s k => strF .gtr x y s k) (fun _ _ _ => false) (fun _ _ _ _ _ => false) (fun _ _ _ => false) (fun _ _ _ _ _ _ _ => false) (fun _ _ _ _ _ _ _ _ => false) (fun _ _ _ => false) (fun _ _ _ _ _ _ _ _ => false) (fun _ _ _ => false) (fun _ _ _ _ _ => false) (fun _ _ _ _ _ => false) () (fun _ _ _ _ => ()) x y s k
noncomputable def geqF (x y : AV) (s : St) (k : AV → St → Bool) : Bool := AV.rec (motive_1 := fun _ => AV → St → (AV → St → Bool) → Bool) (motive_2 := fun _ => Unit) (fun _ _ _ _ => false) (fun kk x y s k => AV.rec (motive_1 := fun _ => IntKind → Int → St → (AV → St → Bool) → Bool) (motive_2 := fun _ => Unit) (fun _ _ _ _ _ => false) (fun ky y kk x s k => Bool.rec (motive := fun _ => IntKind → Int → Int → St → (AV → St → Bool) → Bool) (fun _ _ _ _ _ => false) (fun kk x y s k => boK (leI y x) s k) (Nat.beq (kxQ kk) (kxQ ky)) kk x y s k) (fun _ _ _ _ _ => false) (fun _ _ _ _ => false) (fun _ _ _ _ _ _ => false) (fun _ _ _ _ => false) (fun _ _ _ _ _ _ _ _ => false) (fun _ _ _ _ _ _ _ _ _ => false) (fun _ _ _ _ => false) (fun _ _ _ _ _ _ _ _ _ => false) (fun _ _ _ _ => false) (fun _ _ _ _ _ _ => false) (fun _ _ _ _ _ _ => false) () (fun _ _ _ _ => ()) y kk x s k) (fun x y s k => strF .geq x y s k) (fun _ _ _ => false) (fun _ _ _ _ _ => false) (fun _ _ _ => false) (fun _ _ _ _ _ _ _ => false) (fun _ _ _ _ _ _ _ _ => false) (fun _ _ _ => false) (fun _ _ _ _ _ _ _ _ => false) (fun _ _ _ => false) (fun _ _ _ _ _ => false) (fun _ _ _ _ _ => false) () (fun _ _ _ _ => ()) x y s k
structure BV where
  v : AV → AV → M AV
noncomputable def dB (o : BinOp) : BV := match o with
  | .add => ⟨addF⟩
  | .sub => ⟨subF⟩
  | .eql => ⟨eqlF⟩
  | .neq => ⟨neqF⟩
  | .lss => ⟨lssF⟩
  | .leq => ⟨leqF⟩
  | .gtr => ⟨gtrF⟩
  | .geq => ⟨geqF⟩
  | o => ⟨binF o⟩
noncomputable def notF (x : AV) (s : St) (k : AV → St → Bool) : Bool := AV.rec (motive_1 := fun _ => St → (AV → St → Bool) → Bool) (motive_2 := fun _ => Unit) (fun t s k => boN t s k) (fun _ _ _ _ => false) (fun _ _ _ => false) (fun _ _ => false) (fun _ _ _ _ => false) (fun _ _ => false) (fun _ _ _ _ _ _ => false) (fun _ _ _ _ _ _ _ => false) (fun _ _ => false) (fun _ _ _ _ _ _ _ => false) (fun _ _ => false) (fun _ _ _ _ => false) (fun _ _ _ _ => false) () (fun _ _ _ _ => ()) x s k
noncomputable def cviF (kk : IntKind) (x : AV) (s : St) (k : AV → St → Bool) : Bool := AV.rec (motive_1 := fun _ => IntKind → St → (AV → St → Bool) → Bool) (motive_2 := fun _ => Unit) (fun _ _ _ _ => false) (fun _ a kk s k => wrK kk a s k) (fun _ _ _ _ => false) (fun _ _ _ => false) (fun _ _ _ _ _ => false) (fun _ _ _ => false) (fun _ _ _ _ _ _ _ => false) (fun _ _ _ _ _ _ _ _ => false) (fun _ _ _ => false) (fun _ _ _ _ _ _ _ _ => false) (fun _ _ _ => false) (fun _ _ _ _ _ => false) (fun _ _ _ _ _ => false) () (fun _ _ _ _ => ()) x kk s k
noncomputable def lenK (x : AV) (s : St) (k : AV → St → Bool) : Bool := AV.rec (motive_1 := fun _ => St → (AV → St → Bool) → Bool) (motive_2 := fun _ => Unit) (fun _ _ _ => false) (fun _ _ _ _ => false) (fun _ _ _ => false) (fun _ _ => false) (fun _ _ _ _ => false) (fun s k => k (.i .i64 (.ofNat 0)) s) (fun _ _ n _ s k => k (.i .i64 (.ofNat n)) s) (fun _ _ n _ _ s k => k (.i .i64 (.ofNat n)) s) (fun _ _ => false) (fun _ _ _ _ _ _ _ => false) (fun _ _ => false) (fun _ _ _ _ => false) (fun _ _ _ _ => false) () (fun _ _ _ _ => ()) x s k
structure XV where
  v : List AV → M AV
noncomputable def dX (j : Nat) : XV := match j with
  | 0 => ⟨fun l s k => List.rec (motive := fun _ => St → (AV → St → Bool) → Bool) (fun _ _ => false) (fun v _ _ s k => k v s) l s k⟩
  | j + 1 => ⟨fun l s k => List.rec (motive := fun _ => St → (AV → St → Bool) → Bool) (fun _ _ => false) (fun _ l _ s k => (dX j).v l s k) l s k⟩
noncomputable def extK (f : XV) (x : AV) (s : St) (k : AV → St → Bool) : Bool := AV.rec (motive_1 := fun _ => XV → St → (AV → St → Bool) → Bool) (motive_2 := fun _ => Unit) (fun _ _ _ _ => false) (fun _ _ _ _ _ => false) (fun _ _ _ _ => false) (fun _ _ _ => false) (fun _ _ _ _ _ => false) (fun _ _ _ => false) (fun _ _ _ _ _ _ _ => false) (fun _ _ _ _ _ _ _ _ => false) (fun _ _ _ => false) (fun _ _ _ _ _ _ _ _ => false) (fun _ _ _ => false) (fun _ _ _ _ _ => false) (fun xs _ f s k => f.v xs s k) () (fun _ _ _ _ => ()) x f s k
noncomputable def newK (z : Bool) (n : Nat) (t : Tr) : M AV := fun s k => newT ⟨z, true, true⟩ n t s fun id s => k (.p id 0) s
noncomputable def boxF (z : Bool) (v : AV) (s : St) (k : AV → St → Bool) : Bool := AV.rec (motive_1 := fun _ => Bool → AV → St → (AV → St → Bool) → Bool) (motive_2 := fun _ => Unit) (fun _ z v s k => newK z 1 (.t0 v) s k) (fun _ _ z v s k => newK z 1 (.t0 v) s k) (fun _ z v s k => newK z 1 (.t0 v) s k) (fun z v s k => newK z 1 (.t0 v) s k) (fun _ _ z v s k => newK z 1 (.t0 v) s k) (fun z v s k => newK z 1 (.t0 v) s k) (fun _ _ _ _ z v s k => newK z 1 (.t0 v) s k) (fun _ _ _ _ _ z v s k => newK z 1 (.t0 v) s k) (fun z v s k => newK z 1 (.t0 v) s k) (fun _ _ _ _ _ z v s k => newK z 1 (.t0 v) s k) (fun z v s k => newK z 1 (.t0 v) s k) (fun xs _ z v s k => newK z (lnL xs) (toT xs) s k) (fun _ _ _ _ _ _ => false) () (fun _ _ _ _ => ()) v z v s k
structure Fn where
  fn : Nat → List AV → M AV
noncomputable def callF (F : Fn) (x : AV) (l : List AV) (s : St) (k : AV → St → Bool) : Bool := AV.rec (motive_1 := fun _ => Fn → List AV → St → (AV → St → Bool) → Bool) (motive_2 := fun _ => Unit) (fun _ _ _ _ _ => false) (fun _ _ _ _ _ _ => false) (fun _ _ _ _ _ => false) (fun _ _ _ _ => false) (fun _ _ _ _ _ _ => false) (fun _ _ _ _ => false) (fun _ _ _ _ _ _ _ _ => false) (fun _ _ _ _ _ _ _ _ _ => false) (fun _ _ _ _ => false) (fun fn first cap _ _ F l s k => F.fn fn (apL first (List.rec (motive := fun _ => List AV → List AV) (fun l => l) (fun v m _ l => apL l (v :: m)) cap l)) s k) (fun _ _ _ _ => false) (fun _ _ _ _ _ _ => false) (fun _ _ _ _ _ _ => false) () (fun _ _ _ _ => ()) x F l s k
noncomputable def firstL (w n : Nat) (v : AV) : M (List AV) := match v with
  | .s0 => M.pure []
  | .sl id off _ _ => rd id off (n * w)
  | .so id off _ _ _ => rd id off (n * w)
  | .s b => M.ifB (Nat.beq w 1) (M.pure (bytesL (b.take n)))
  | _ => M.no
noncomputable def grow (z : Bool) (w : Nat) (s : AV) (n : Nat) (new : List AV) : M AV := match s with
  | .s0 => match Nat.beq n 0 with
    | true => M.pure .s0
    | false => M.bind (Kq.new ⟨z, true, false⟩ new) fun id => M.pure (.so id 0 n n w)
  | .sl id off len cap => match Nat.ble (len + n) cap with
    | true => M.bind (wr id (off + len * w) new) fun _ => M.pure (.sl id off (len + n) cap)
    | false => M.ifB (Nat.ble len lim) (M.bind (rd id off (len * w)) fun old => M.bind (Kq.new ⟨z, true, false⟩ (old ++ new)) fun id => M.pure (.so id 0 (len + n) (len + n) w))
  | .so id off len k w' => M.ifB (Nat.beq w w') (match Nat.ble (len + n) k with
    | true => M.bind (wr id (off + len * w) new) fun _ => M.pure (.so id off (len + n) k w)
    | false => M.ifB (Nat.ble len lim) (M.bind (over id off (len * w) new) fun id => M.pure (.so id 0 (len + n) (len + n) w)))
  | _ => M.no
noncomputable def appF (z : Bool) (w : Nat) (s x : AV) : M AV := M.ofO (lenO x) fun n => M.ifB (Nat.ble n lim) (M.bind (firstL w n x) fun new => grow z w s n new)
noncomputable def apzF (z : Bool) (w : Nat) (cs : List AV) (s x : AV) : M AV := M.ofO (natOf x) fun n => M.ifB (Nat.ble n lim) (grow z w s n (repL cs n))
noncomputable def cpyF (w : Nat) (d x : AV) : M AV := M.ofO (lenO x) fun m => match d with
  | .s0 => M.pure (.i .i64 (.ofNat 0))
  | .sl id off len _ => M.bind (firstL w (minN m len) x) fun l => M.bind (wr id off l) fun _ => M.pure (.i .i64 (.ofNat (minN m len)))
  | .so id off len _ _ => M.bind (firstL w (minN m len) x) fun l => M.bind (wr id off l) fun _ => M.pure (.i .i64 (.ofNat (minN m len)))
  | _ => M.no
noncomputable def clrF (cs : List AV) (d : AV) : M AV := match d with
  | .s0 => M.pure (.tu [])
  | .sl id off len _ => M.bind (wr id off (repL cs len)) fun _ => M.pure (.tu [])
  | .so id off len _ _ => M.bind (wr id off (repL cs len)) fun _ => M.pure (.tu [])
  | _ => M.no
noncomputable def vlQ (d : Dg) : Nat := Dg.rec (motive := fun _ => Nat) 0 1 2 3 4 5 6 7 d
noncomputable def nmQ (i : Id) : Nat := Nat.add (Nat.mul (Nat.add (Nat.mul (Nat.add (Nat.mul (Nat.add (Nat.mul (Nat.add (Nat.mul (vlQ i.a) 8) (vlQ i.b)) 8) (vlQ i.c)) 8) (vlQ i.d)) 8) (vlQ i.e)) 8) (vlQ i.f)
noncomputable def eqP (i : Id) (a : Nat) (j : Id) (b : Nat) : M Bool := match Nat.beq (nmQ i) (nmQ j) with
  | true => M.pure (Nat.beq a b)
  | false => M.bind (shared i) fun z => M.bind (shared j) fun z' => M.ifB (!(z.s || z'.s)) (M.pure false)
noncomputable def eqB (x y : AV) : M Bool := match x with
  | .b x => match y with
    | .b y => M.pure (x == y)
    | _ => M.no
  | _ => M.no
noncomputable def eqQ (x y : AV) : M Bool := match x with
  | .p0 => match y with
    | .p0 => M.pure true
    | .p _ _ => M.pure false
    | _ => M.no
  | .p i a => match y with
    | .p0 => M.pure false
    | .p j b => eqP i a j b
    | _ => M.no
  | _ => M.no
noncomputable def eqS (x y : AV) : M Bool := match x with
  | .s0 => match y with
    | .s0 => M.pure true
    | .sl _ _ _ _ => M.pure false
    | .so _ _ _ _ _ => M.pure false
    | _ => M.no
  | .sl _ _ _ _ => match y with
    | .s0 => M.pure false
    | _ => M.no
  | .so _ _ _ _ _ => match y with
    | .s0 => M.pure false
    | _ => M.no
  | _ => M.no
noncomputable def eqF (x y : AV) : M Bool := match x with
  | .f0 => match y with
    | .f0 => M.pure true
    | .f _ _ _ => M.pure false
    | _ => M.no
  | .f _ _ _ => match y with
    | .f0 => M.pure false
    | _ => M.no
  | _ => M.no
noncomputable def eqG (m : Nat) (x y : AV) : M Bool := match x with
  | .ag xs => match y with
    | .ag ys => match Nat.beq xs.length m with
      | true => M.ofO (ceqs xs ys) M.pure
      | false => M.no
    | _ => M.no
  | _ => M.no
noncomputable def eqK (kd : Nat) (x y : AV) : M Bool := match kd with
  | 0 => eqB x y
  | 1 => eqQ x y
  | 2 => eqS x y
  | 3 => eqF x y
  | m + 4 => eqG m x y
noncomputable def eqN (kd : Nat) (ng : Bool) (x y : AV) : M AV := M.bind (eqK kd x y) fun r => M.pure (.b (ng != r))
noncomputable def cvtL (l : List AV) : M AV := M.ofO (bytesOf l) fun bs => M.pure (.s bs)
noncomputable def cvtF (x : AV) : M AV := match x with
  | .s0 => M.pure (.s [])
  | .sl id off len _ => M.bind (rd id off len) cvtL
  | .so id off len _ _ => M.bind (rd id off len) cvtL
  | _ => M.no
noncomputable def cvmF (x : AV) : M AV := match x with
  | .sl id a b c => M.bind (shared id) fun z => M.ifB z.s (M.pure (.sl id a b c))
  | .so id a b c d => M.bind (shared id) fun z => M.ifB z.s (M.pure (.so id a b c d))
  | _ => M.no
noncomputable def cvbF (x : AV) : M AV := match x with
  | .s b => M.ifB (Nat.ble b.length lim) (M.bind (Kq.new ⟨true, true, false⟩ (bytesL b)) fun id => M.pure (.so id 0 b.length b.length 1))
  | _ => M.no
/-- c times the cells -/
noncomputable def mkT (z : Zf) (cs : List AV) (c : Nat) : M Id := match cs with
  | [v] => newT z c (allT c v)
  | cs => new z (repL cs c)
noncomputable def mksF (z : Bool) (cs : List AV) (l c : AV) : M AV := M.ofO (natOf l) fun l => M.ofO (natOf c) fun c =>
  M.ifB (Nat.ble l c && Nat.ble c lim) (M.bind (mkT ⟨z, true, true⟩ cs c) fun id => M.pure (.sl id 0 l c))
noncomputable def cvsF (x : AV) : M AV := match x with
  | .s b => M.pure (.s b)
  | _ => M.no

noncomputable def gA (x : Arg) : G := match x with
  | .t n => gtS n
  | .c v => ⟨fun _ => v⟩
structure GL where
  g : E → List AV
structure GO where
  g : E → Option AV
noncomputable def gL (l : List Arg) : GL := match l with
  | [] => ⟨fun _ => []⟩
  | x :: l => match gA x with
    | ⟨g⟩ => match gL l with
      | ⟨gs⟩ => ⟨fun e => g e :: gs e⟩
noncomputable def gO (x : Option Arg) : GO := match x with
  | none => ⟨fun _ => none⟩
  | some x => match gA x with
    | ⟨g⟩ => ⟨fun e => some (g e)⟩
structure FL where
  f : E → List AV → Option (List AV)
noncomputable def gF (ps : List Part) : FL := match ps with
  | [] => ⟨fun _ cs => some cs⟩
  | p :: ps => ⟨fun e cs => match ((gA p.x).g e).cells with
    | none => none
    | some l => match Nat.beq l.length p.m && Nat.ble (p.off + p.m) cs.length with
      | true => (gF ps).f e (setL l cs p.off)
      | false => none⟩
/-- parts into a tree of n cells -/
structure TL where
  f : E → Tr → (Tr → Bool) → Bool
noncomputable def gT (n : Nat) (ps : List Part) : TL := match ps with
  | [] => ⟨fun _ t k => k t⟩
  | p :: ps => match Nat.ble (p.off + p.m) n with
    | false => ⟨fun _ _ _ => false⟩
    | true => match Nat.beq p.m 1 with
      | true => match gA p.x with
        | ⟨g⟩ => match gT n ps with
          | ⟨f⟩ => ⟨fun e t k => cellsK p.m (g e) fun l => f e (setT t p.off (hdL l)) k⟩
      | false => match gA p.x with
        | ⟨g⟩ => match gT n ps with
          | ⟨f⟩ => ⟨fun e t k => cellsK p.m (g e) fun l => f e (putL l t p.off) k⟩
structure TC where
  t : Tr
/-- an operation, made ready -/
structure OV where
  v : Fn → E → M AV
noncomputable def dO (o : PO) : OV := match o with
  | .mv x => match gA x with
    | ⟨q0⟩ => ⟨fun _ e s k => k (q0 e) s⟩
  | .pick c a b => match gA c with
    | ⟨q0⟩ => match gA a with
      | ⟨q1⟩ => match gA b with
        | ⟨q2⟩ => ⟨fun _ e s k => pickF (q0 e) (q1 e) (q2 e) s k⟩
  | .new z cs => ⟨fun _ _ s k => newK z (lnL cs) (toT cs) s k⟩
  | .box z x => match gA x with
    | ⟨q0⟩ => ⟨fun _ e s k => boxF z (q0 e) s k⟩
  | .build cs ps => match gF ps with
    | ⟨f⟩ => ⟨fun _ e => M.ofO (f e cs) fun l => M.pure (.ag l)⟩
  | .bsl z cs len ps => match gT (lnL cs) ps with
    | ⟨f⟩ => ⟨fun _ e s k => f e (toT cs) fun t => newT ⟨z, true, true⟩ (lnL cs) t s fun id s => k (.sl id 0 len len) s⟩
  | .ld1 a => match gA a with
    | ⟨q0⟩ => ⟨fun _ e s k => ldF (q0 e) s k⟩
  | .ldn m a => match gA a with
    | ⟨q0⟩ => ⟨fun _ e s k => ldnF m (q0 e) s k⟩
  | .st m a v => match Nat.beq m 1 with
    | true => match gA a with
      | ⟨q0⟩ => match gA v with
        | ⟨q1⟩ => ⟨fun _ e s k => st1F (q0 e) (q1 e) s k⟩
    | false => match gA a with
      | ⟨q0⟩ => match gA v with
        | ⟨q1⟩ => ⟨fun _ e s k => stnF m (q0 e) (q1 e) s k⟩
  | .nilc x => match gA x with
    | ⟨q0⟩ => ⟨fun _ e s k => nilF (q0 e) s k⟩
  | .bin o x y => match gA x with
    | ⟨q0⟩ => match gA y with
      | ⟨q1⟩ => match dB o with
        | ⟨bv⟩ => ⟨fun _ e s k => bv (q0 e) (q1 e) s k⟩
  | .eq kd ng x y => match gA x with
    | ⟨q0⟩ => match gA y with
      | ⟨q1⟩ => ⟨fun _ e => eqN kd ng (q0 e) (q1 e)⟩
  | .un o x => match o with
    | .not => match gA x with
      | ⟨q0⟩ => ⟨fun _ e s k => notF (q0 e) s k⟩
    | o => match gA x with
      | ⟨q0⟩ => ⟨fun _ e => M.ofO (unF o (q0 e)) M.pure⟩
  | .cvi kk x => match gA x with
    | ⟨q0⟩ => ⟨fun _ e s k => cviF kk (q0 e) s k⟩
  | .cvs x => match gA x with
    | ⟨q0⟩ => ⟨fun _ e => cvsF (q0 e)⟩
  | .cvb x => match gA x with
    | ⟨q0⟩ => ⟨fun _ e => cvbF (q0 e)⟩
  | .cvt x => match gA x with
    | ⟨q0⟩ => ⟨fun _ e => cvtF (q0 e)⟩
  | .cvm x => match gA x with
    | ⟨q0⟩ => ⟨fun _ e => cvmF (q0 e)⟩
  | .mkf fn a b => match gL a with
    | ⟨q0⟩ => match gL b with
      | ⟨q1⟩ => ⟨fun _ e s k => k (.f fn (q0 e) (q1 e)) s⟩
  | .mks z cs l c => match gA l with
    | ⟨q0⟩ => match gA c with
      | ⟨q1⟩ => ⟨fun _ e => mksF z cs (q0 e) (q1 e)⟩
  | .sls w x lo hi mx => match gA x with
    | ⟨q0⟩ => match gO lo with
      | ⟨q1⟩ => match gO hi with
        | ⟨q2⟩ => match gO mx with
          | ⟨q3⟩ => ⟨fun _ e => M.ofO (slsF w (q0 e) (q1 e) (q2 e) (q3 e)) M.pure⟩
  | .sla w n x lo hi mx => match gA x with
    | ⟨q0⟩ => match gO lo with
      | ⟨q1⟩ => match gO hi with
        | ⟨q2⟩ => match gO mx with
          | ⟨q3⟩ => ⟨fun _ e => M.ofO (slaF w n (q0 e) (q1 e) (q2 e) (q3 e)) M.pure⟩
  | .slt x lo hi => match gA x with
    | ⟨q0⟩ => match gO lo with
      | ⟨q1⟩ => match gO hi with
        | ⟨q2⟩ => ⟨fun _ e => M.ofO (sltF (q0 e) (q1 e) (q2 e)) M.pure⟩
  | .fad off x => match gA x with
    | ⟨q0⟩ => ⟨fun _ e s k => fadF off (q0 e) s k⟩
  | .ixa n w x i => match gA x with
    | ⟨q0⟩ => match gA i with
      | ⟨q1⟩ => ⟨fun _ e s k => ixaF n w (q0 e) (q1 e) s k⟩
  | .ixs w x i => match gA x with
    | ⟨q0⟩ => match gA i with
      | ⟨q1⟩ => ⟨fun _ e s k => ixsF w (q0 e) (q1 e) s k⟩
  | .ext x j => match gA x with
    | ⟨q0⟩ => ⟨fun _ e s k => extK (dX j) (q0 e) s k⟩
  | .calv f l => match gA f with
    | ⟨q0⟩ => match gL l with
      | ⟨q1⟩ => ⟨fun F e s k => callF F (q0 e) (q1 e) s k⟩
  | .app z w s x => match gA s with
    | ⟨q0⟩ => match gA x with
      | ⟨q1⟩ => ⟨fun _ e => appF z w (q0 e) (q1 e)⟩
  | .apz z w cs s x => match gA s with
    | ⟨q0⟩ => match gA x with
      | ⟨q1⟩ => ⟨fun _ e => apzF z w cs (q0 e) (q1 e)⟩
  | .cpy w d x => match gA d with
    | ⟨q0⟩ => match gA x with
      | ⟨q1⟩ => ⟨fun _ e => cpyF w (q0 e) (q1 e)⟩
  | .clr cs d => match gA d with
    | ⟨q0⟩ => ⟨fun _ e => clrF cs (q0 e)⟩
  | .len x => match gA x with
    | ⟨q0⟩ => ⟨fun _ e s k => lenK (q0 e) s k⟩
  | .lns x => match gA x with
    | ⟨q0⟩ => ⟨fun _ e => M.ofO (lnsF (q0 e)) M.pure⟩
  | .cap x => match gA x with
    | ⟨q0⟩ => ⟨fun _ e => M.ofO (capF (q0 e)) M.pure⟩
  | .mm mx x l => match gA x with
    | ⟨q0⟩ => match gL l with
      | ⟨q1⟩ => ⟨fun _ e => M.ofO (mmF mx (q0 e) (q1 e)) M.pure⟩
structure SV where
  v : Fn → E → St → (E → St → Bool) → Bool
noncomputable def pD (d : Option Nat) : Option P := match d with
  | none => some ⟨fun _ e => e⟩
  | some d => ptS d
noncomputable def dP (o : PO) (d : Option Nat) : SV := match pD d with
  | none => ⟨fun _ _ _ _ => false⟩
  | some ⟨p⟩ => match o with
    | .mv x => match gA x with
      | ⟨g⟩ => ⟨fun _ e s k => k (p (g e) e) s⟩
    | o => match dO o with
      | ⟨f⟩ => ⟨fun F e s k => f F e s fun v s => k (p v e) s⟩
noncomputable def dU (d : Option Nat) : SV := match pD d with
  | none => ⟨fun _ _ _ _ => false⟩
  | some ⟨p⟩ => ⟨fun F e s k => k (p und e) s⟩

noncomputable def sel (x : AV) (a b u : SV) (F : Fn) (e : E) (s : St) (k : E → St → Bool) : Bool := AV.rec (motive_1 := fun _ => SV → SV → SV → Fn → E → St → (E → St → Bool) → Bool) (motive_2 := fun _ => Unit) (fun t a b _ F e s k => Bool.rec (motive := fun _ => SV → SV → Fn → E → St → (E → St → Bool) → Bool) (fun _ b F e s k => b.v F e s k) (fun a _ F e s k => a.v F e s k) t a b F e s k) (fun _ _ _ _ u F e s k => u.v F e s k) (fun _ _ _ u F e s k => u.v F e s k) (fun _ _ u F e s k => u.v F e s k) (fun _ _ _ _ u F e s k => u.v F e s k) (fun _ _ u F e s k => u.v F e s k) (fun _ _ _ _ _ _ u F e s k => u.v F e s k) (fun _ _ _ _ _ _ _ u F e s k => u.v F e s k) (fun _ _ u F e s k => u.v F e s k) (fun _ _ _ _ _ _ _ u F e s k => u.v F e s k) (fun _ _ u F e s k => u.v F e s k) (fun _ _ _ _ u F e s k => u.v F e s k) (fun _ _ _ _ u F e s k => u.v F e s k) () (fun _ _ _ _ => ()) x a b u F e s k
noncomputable def dS (o : PS) : SV := match o.g with
  | none => dP o.o o.d
  | some (n, want) => match want with
    | true => match gtS n with
      | ⟨g⟩ => ⟨fun F e s k => sel (g e) (dP o.o o.d) (dU o.d) (dU o.d) F e s k⟩
    | false => match gtS n with
      | ⟨g⟩ => ⟨fun F e s k => sel (g e) (dU o.d) (dP o.o o.d) (dU o.d) F e s k⟩
noncomputable def dOps (l : List PS) : SV := match l with
  | [] => ⟨fun _ e s k => k e s⟩
  | o :: l => match dS o with
    | ⟨f⟩ => match dOps l with
      | ⟨g⟩ => ⟨fun F e s k => f F e s fun e s => g F e s k⟩
/-- does it neither read nor write memory -/
def memP (o : PO) : Bool := match o with
  | .mv _ => false
  | .pick _ _ _ => false
  | .nilc _ => false
  | .bin _ _ _ => false
  | .un _ _ => false
  | .cvi _ _ => false
  | .mkf _ _ _ => false
  | .fad _ _ => false
  | .ixa _ _ _ _ => false
  | .ixs _ _ _ => false
  | .ext _ _ => false
  | .len _ => false
  | .build _ _ => false
  | .mm _ _ _ => false
  | _ => true
/-- with its own lists of what is read and written -/
structure AP where
  v : Fn → E → St → (E → List Rng → List Rng → St → Bool) → Bool
noncomputable def apQ (tr : Bool) (r w : List Rng) (e : E) (t : St) (k : E → List Rng → List Rng → St → Bool) : Bool := St.rec (motive := fun _ => Bool → List Rng → List Rng → E → (E → List Rng → List Rng → St → Bool) → Bool)
  (fun _ h n r' w' tr r w e k => Bool.rec (motive := fun _ => H6 → Id → List Rng → List Rng → List Rng → List Rng → E → (E → List Rng → List Rng → St → Bool) → Bool) (fun h n r' w' r w e k => k e r' w' ⟨false, h, n, r, w⟩) (fun h n r' w' r w e k => k e r' w' ⟨true, h, n, List.append r' r, List.append w' w⟩) tr h n r' w' r w e k) t tr r w e k
noncomputable def dAp (o : SV) : AP := match o with
  | ⟨o⟩ => ⟨fun F e s k => St.rec (motive := fun _ => (Fn → E → St → (E → St → Bool) → Bool) → Fn → E → (E → List Rng → List Rng → St → Bool) → Bool) (fun tr h n r w o F e k => o F e ⟨true, h, n, [], []⟩ fun e' t => apQ tr r w e' t k) s o F e k⟩
noncomputable def hitQ (a b : Rng) : Bool := Bool.rec (motive := fun _ => Rng → Rng → Bool) (fun _ _ => false) (fun a b => Bool.rec (motive := fun _ => Rng → Rng → Bool) (fun _ _ => false) (fun a b => Nat.blt b.lo (Nat.add a.lo a.m)) (Nat.blt a.lo (Nat.add b.lo b.m)) a b) (Nat.beq (nmQ a.id) (nmQ b.id)) a b
noncomputable def anyQ (x : Rng) (l : List Rng) : Bool := List.rec (motive := fun _ => Rng → Bool) (fun _ => false) (fun y _ ih x => Bool.rec (motive := fun _ => (Rng → Bool) → Rng → Bool) (fun ih x => ih x) (fun _ _ => true) (hitQ x y) ih x) l x
noncomputable def hitR (a b : List Rng) : Bool := List.rec (motive := fun _ => List Rng → Bool) (fun _ => false) (fun x _ ih b => Bool.rec (motive := fun _ => (List Rng → Bool) → List Rng → Bool) (fun ih b => ih b) (fun _ _ => true) (anyQ x b) ih b) a b
noncomputable def hitsQ (a b : List Rng) : Bool := List.rec (motive := fun _ => List Rng → List Rng → Bool) (fun _ _ => false) (fun _ _ _ a b => hitR a b) b a b
noncomputable def clashQ (m : Nat) (b a : Ft) : Bool := match Nat.testBit m a.i with
  | true => false
  | false => hitsQ a.w b.w || (hitsQ a.w b.r || hitsQ a.r b.w)
structure DV where
  v : Fn → List Ft → E → St → (E → St → Bool) → Bool
/-- mem: which of those ahead touch memory -/
noncomputable def dDrw (l : List PS) (ms : List Nat) (i mem : Nat) : DV := match l with
  | [] => ⟨fun _ _ e s k => k e s⟩
  | o :: l => match ms with
    | [] => ⟨fun _ _ _ _ _ => false⟩
    | m :: ms => match memP o.o with
      | false => match dS o with
        | ⟨f⟩ => match dDrw l ms (i + 1) mem with
          | ⟨g⟩ => ⟨fun F acc e s k => f F e s fun e s => g F acc e s k⟩
      | true => match dAp (dS o) with
        | ⟨f⟩ => match dDrw l ms (i + 1) (Nat.lor mem (Nat.shiftLeft 1 i)) with
          | ⟨g⟩ => match Nat.beq (Nat.land mem m) mem with
            | true => ⟨fun F acc e s k => f F e s fun e r w s => g F (⟨i, r, w⟩ :: acc) e s k⟩
            | false => ⟨fun F acc e s k => f F e s fun e r w s => Bool.rec (motive := fun _ => (Fn → List Ft → E → St → (E → St → Bool) → Bool) → Fn → List Ft → E → St → (E → St → Bool) → Bool) (fun g F acc e s k => g F acc e s k) (fun _ _ _ _ _ _ => false) (acc.any (clashQ m ⟨i, r, w⟩)) g F (⟨i, r, w⟩ :: acc) e s k⟩
structure CV where
  v : Fn → E → St → (E → St → Bool) → (Ex → E → St → Bool) → Bool
noncomputable def itQ (n : Nat) (c : (Fn → E → St → (E → St → Bool) → (Ex → E → St → Bool) → Bool)) (F : Fn) (e : E) (s : St) (k : E → St → Bool) (x : Ex → E → St → Bool) : Bool := Nat.rec (motive := fun _ => (Fn → E → St → (E → St → Bool) → (Ex → E → St → Bool) → Bool) → Fn → E → St → (Ex → E → St → Bool) → Bool) (fun _ _ _ _ _ => false) (fun _ ih c F e s x => c F e s (fun e s => ih c F e s x) x) n c F e s x

noncomputable def cndQ (x : AV) (a b : CV) (F : Fn) (e : E) (s : St) (k : E → St → Bool) (ex : Ex → E → St → Bool) : Bool := AV.rec (motive_1 := fun _ => CV → CV → Fn → E → St → (E → St → Bool) → (Ex → E → St → Bool) → Bool) (motive_2 := fun _ => Unit) (fun t a b F e s k ex => Bool.rec (motive := fun _ => CV → CV → Fn → E → St → (E → St → Bool) → (Ex → E → St → Bool) → Bool) (fun _ b F e s k ex => b.v F e s k ex) (fun a _ F e s k ex => a.v F e s k ex) t a b F e s k ex) (fun _ _ _ _ _ _ _ _ _ => false) (fun _ _ _ _ _ _ _ _ => false) (fun _ _ _ _ _ _ _ => false) (fun _ _ _ _ _ _ _ _ _ => false) (fun _ _ _ _ _ _ _ => false) (fun _ _ _ _ _ _ _ _ _ _ _ => false) (fun _ _ _ _ _ _ _ _ _ _ _ _ => false) (fun _ _ _ _ _ _ _ => false) (fun _ _ _ _ _ _ _ _ _ _ _ _ => false) (fun _ _ _ _ _ _ _ => false) (fun _ _ _ _ _ _ _ _ _ => false) (fun _ _ _ _ _ _ _ _ _ => false) () (fun _ _ _ _ => ()) x a b F e s k ex
noncomputable def blQ (id : Nat) (ex : Ex) (e : E) (s : St) (k : E → St → Bool) (x : Ex → E → St → Bool) : Bool := Ex.rec (motive := fun _ => Nat → E → St → (E → St → Bool) → (Ex → E → St → Bool) → Bool) (fun _ e s _ x => x .ret e s)
  (fun j id e s k x => Bool.rec (motive := fun _ => Nat → E → St → (E → St → Bool) → (Ex → E → St → Bool) → Bool) (fun j e s _ x => x (.exit j) e s) (fun _ e s k _ => k e s) (Nat.beq j id) j e s k x) ex id e s k x
noncomputable def dC (c : PC) : CV := match c with
  | .skip => ⟨fun _ e s k _ => k e s⟩
  | .ret => ⟨fun _ e s _ x => x .ret e s⟩
  | .exit id => ⟨fun _ e s _ x => x (.exit id) e s⟩
  | .seq a b => match dC a with
    | ⟨f⟩ => match dC b with
      | ⟨g⟩ => ⟨fun F e s k x => f F e s (fun e s => g F e s k x) x⟩
  | .cond c a b => match gA c with
    | ⟨q⟩ => ⟨fun F e s k x => cndQ (q e) (dC a) (dC b) F e s k x⟩
  | .block id b => match dC b with
    | ⟨f⟩ => ⟨fun F e s k x => f F e s k fun ex e s => blQ id ex e s k x⟩
  | .loop b => match dC b with
    | ⟨f⟩ => ⟨fun F e s k x => itQ rounds f F e s k x⟩
  | .reg ops => match dOps ops with
    | ⟨f⟩ => ⟨fun F e s k _ => f F e s k⟩
  | .drw ops ms => match dDrw ops ms 0 0 with
    | ⟨f⟩ => ⟨fun F e s k _ => f F [] e s k⟩
structure RV where
  v : E → M (List AV)
noncomputable def dR (l : List PR) : RV := match l with
  | [] => ⟨fun _ s k => k [] s⟩
  | r :: l => match r with
    | .t n => match gtS n with
      | ⟨g⟩ => match dR l with
        | ⟨f⟩ => ⟨fun e s k => f e s fun vs s => k (g e :: vs) s⟩
    | .c1 n => match gtS n with
      | ⟨g⟩ => match dR l with
        | ⟨f⟩ => ⟨fun e s k => ldF (g e) s fun v s => f e s fun vs s => k (v :: vs) s⟩
    | .cn m n => match gtS n with
      | ⟨g⟩ => match dR l with
        | ⟨f⟩ => ⟨fun e s k => ldnF m (g e) s fun v s => f e s fun vs s => k (v :: vs) s⟩
def e00 : E := ⟨l1, l2, l3⟩
noncomputable def argQ (l : List AV) (i : Nat) (e : E) : Option E := match l with
  | [] => some e
  | v :: l => match ptS i with
    | none => none
    | some p => argQ l (i + 1) (p.p v e)
noncomputable def arg8 (l : List AV) : Option E := List.rec (motive := fun _ => List AV → Option E) (fun l => some ⟨pk l, l2, l3⟩) (fun _ _ _ l => argQ (tl8 l) 8 ⟨pk l, l2, l3⟩) (tl8 l) l
structure WV where
  v : Fn → List AV → M AV
noncomputable def dW (own : Nat → List AV → M AV) (x : Option PF) : WV := match x with
  | none => ⟨fun _ _ _ _ => false⟩
  | some (.own k) => ⟨fun _ l => own k l⟩
  | some (.f body res) => match dC body with
    | ⟨c⟩ => match dR res with
      | ⟨r⟩ => ⟨fun F l s k => Option.rec (motive := fun _ => Fn → St → (AV → St → Bool) → Bool) (fun _ _ _ => false) (fun e F s k => c F e s (fun e s => r e s fun vs s => k (oneR vs) s) fun ex e s => Ex.rec (motive := fun _ => E → St → (AV → St → Bool) → Bool) (fun e s k => r e s fun vs s => k (oneR vs) s) (fun _ _ _ _ => false) ex e s k) (arg8 l) F s k⟩
noncomputable def runQ (own : Nat → List AV → M AV) (X : Nat → Option PF) (n : Nat) : Fn := Nat.rec (motive := fun _ => Fn) ⟨fun _ _ _ _ => false⟩ (fun _ F => ⟨fun f l s k => (dW own (X f)).v F l s k⟩) n
def st0 : St := ⟨false, h6, Id.zero, [], []⟩
def isT (v : AV) : Bool := match v with
  | .b x => x
  | _ => false
noncomputable def ask (own : Nat → List AV → M AV) (X : Nat → Option PF) (n f : Nat) : Bool := (runQ own X n).fn f [] st0 fun v _ => isT v
/-- Range rows: one element in place of those from i to j -/
noncomputable def replB (vid : Id) (i j : Nat) (v : List AV) (s : AV) : M AV := match s with
  | .s0 => M.ifB (Nat.beq i 0 && Nat.beq j 0) (M.bind (new ⟨false, true, false⟩ v) fun id => M.pure (.so id 0 1 1 2))
  | .so id off n q w => M.ifB (((Nat.beq off 0 && Nat.ble 1 q) && Nat.beq w 2) && (Nat.ble i j && (Nat.ble j n && (Nat.ble n lim && !Nat.beq id.num vid.num)))) (M.bind (shared id) fun z => M.ifB (!z.s && z.b)
      (M.bind (rd id 0 (n * 2)) fun old => M.bind (over id 0 (i * 2) (v ++ old.drop (j * 2))) fun id =>
        M.pure (.so id 0 (i + 1 + (n - j)) (i + 1 + (n - j)) 2)))
  | _ => M.no
noncomputable def replV (s i j : AV) (v : AV) : M AV := match v with
  | .sl vid off n c => M.ifB (Nat.beq off 0 && (Nat.beq n 1 && Nat.beq c 1)) (M.ofO (nat64 i) fun i => M.ofO (nat64 j) fun j => M.bind (ends vid) fun zv => M.ifB ((!zv.1.s && Nat.beq zv.2 2) && (zv.1.b && zv.1.t)) (M.bind (rd vid 0 2) fun v => replB vid i j v s))
  | _ => M.no
noncomputable def replQ (_k : Nat) (l : List AV) : M AV := match l with
  | [s, i, j, v] => replV s i j v
  | _ => M.no
end Kq
end Ev
end Go.Proofs.Ytijnjnncgkhabaa
