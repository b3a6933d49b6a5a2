/- DERIVED,printed by genk3.py. The evaluator once more,made for the kernel: memory,cells and slots in trees,in continuation style,eliminators with closed minors. -/
import Derived.Test.YthknbcbkibbncaaGreatCn2
set_option linter.all false
set_option linter.unusedVariables false
namespace Go.Proofs.YthknbcbkibbncaaGreat
namespace Ev
def nat64 (v : AV) : Option Nat := match v with
  | .i .i64 (.ofNat a) => some a
  | _ => none
namespace Kq
structure N8 (α : Type) where
  c0 : α
  c1 : α
  c2 : α
  c3 : α
  c4 : α
  c5 : α
  c6 : α
  c7 : α
def N8.all {α : Type} (x : α) : N8 α := ⟨x,x,x,x,x,x,x,x⟩
structure Sl where
  f : (α : Type) → N8 α → α
def sl (d : Dg) : Sl := match d with
  | .d0 => ⟨fun _ t => t.c0⟩
  | .d1 => ⟨fun _ t => t.c1⟩
  | .d2 => ⟨fun _ t => t.c2⟩
  | .d3 => ⟨fun _ t => t.c3⟩
  | .d4 => ⟨fun _ t => t.c4⟩
  | .d5 => ⟨fun _ t => t.c5⟩
  | .d6 => ⟨fun _ t => t.c6⟩
  | .d7 => ⟨fun _ t => t.c7⟩
structure Us where
  f : (α : Type) → (α → (α → Bool) → Bool) → N8 α → (N8 α → Bool) → Bool
noncomputable def us (d : Dg) : Us := match d with
  | .d0 => ⟨fun α f t k => N8.rec (motive := fun _ => (α → (α → Bool) → Bool) → (N8 α → Bool) → Bool) (fun c0 c1 c2 c3 c4 c5 c6 c7 f k => f c0 fun x => k ⟨x,c1,c2,c3,c4,c5,c6,c7⟩) t f k⟩
  | .d1 => ⟨fun α f t k => N8.rec (motive := fun _ => (α → (α → Bool) → Bool) → (N8 α → Bool) → Bool) (fun c0 c1 c2 c3 c4 c5 c6 c7 f k => f c1 fun x => k ⟨c0,x,c2,c3,c4,c5,c6,c7⟩) t f k⟩
  | .d2 => ⟨fun α f t k => N8.rec (motive := fun _ => (α → (α → Bool) → Bool) → (N8 α → Bool) → Bool) (fun c0 c1 c2 c3 c4 c5 c6 c7 f k => f c2 fun x => k ⟨c0,c1,x,c3,c4,c5,c6,c7⟩) t f k⟩
  | .d3 => ⟨fun α f t k => N8.rec (motive := fun _ => (α → (α → Bool) → Bool) → (N8 α → Bool) → Bool) (fun c0 c1 c2 c3 c4 c5 c6 c7 f k => f c3 fun x => k ⟨c0,c1,c2,x,c4,c5,c6,c7⟩) t f k⟩
  | .d4 => ⟨fun α f t k => N8.rec (motive := fun _ => (α → (α → Bool) → Bool) → (N8 α → Bool) → Bool) (fun c0 c1 c2 c3 c4 c5 c6 c7 f k => f c4 fun x => k ⟨c0,c1,c2,c3,x,c5,c6,c7⟩) t f k⟩
  | .d5 => ⟨fun α f t k => N8.rec (motive := fun _ => (α → (α → Bool) → Bool) → (N8 α → Bool) → Bool) (fun c0 c1 c2 c3 c4 c5 c6 c7 f k => f c5 fun x => k ⟨c0,c1,c2,c3,c4,x,c6,c7⟩) t f k⟩
  | .d6 => ⟨fun α f t k => N8.rec (motive := fun _ => (α → (α → Bool) → Bool) → (N8 α → Bool) → Bool) (fun c0 c1 c2 c3 c4 c5 c6 c7 f k => f c6 fun x => k ⟨c0,c1,c2,c3,c4,c5,x,c7⟩) t f k⟩
  | .d7 => ⟨fun α f t k => N8.rec (motive := fun _ => (α → (α → Bool) → Bool) → (N8 α → Bool) → Bool) (fun c0 c1 c2 c3 c4 c5 c6 c7 f k => f c7 fun x => k ⟨c0,c1,c2,c3,c4,c5,c6,x⟩) t f k⟩
def gt {α : Type} (d : Dg) (t : N8 α) : α := (sl d).f α t
def dgs (n : Nat) : Option Dg := match n with
  | 0 => some .d0 | 1 => some .d1 | 2 => some .d2 | 3 => some .d3 | 4 => some .d4 | 5 => some .d5 | 6 => some .d6 | 7 => some .d7 | _ => none
structure E where
  lo : N8 AV
  md : N8 (N8 AV)
  hi : N8 (N8 (N8 AV))
structure G where
  g : E → AV
structure P where
  p : AV → E → (E → Bool) → Bool
noncomputable def gtS (n : Nat) : G := match dgs (n / 64) with
  | none => ⟨fun _ => und⟩
  | some a => match dgs (n / 8 % 8) with
    | none => ⟨fun _ => und⟩
    | some b => match dgs (n % 8) with
      | none => ⟨fun _ => und⟩
      | some c => match sl c with
        | ⟨fc⟩ => match Nat.blt n 8 with
          | true => ⟨fun e => fc AV e.lo⟩
          | false => match sl b with
            | ⟨fb⟩ => match Nat.blt n 64 with
              | true => ⟨fun e => fc AV (fb (N8 AV) e.md)⟩
              | false => match sl a with
                | ⟨fa⟩ => ⟨fun e => fc AV (fb (N8 AV) (fa (N8 (N8 AV)) e.hi))⟩
noncomputable def ptS (n : Nat) : Option P := match dgs (n / 64) with
  | none => none
  | some a => match dgs (n / 8 % 8) with
    | none => none
    | some b => match dgs (n % 8) with
      | none => none
      | some c => match us c with
        | ⟨fc⟩ => match Nat.blt n 8 with
          | true => some ⟨fun v e k => E.rec (motive := fun _ => AV → (E → Bool) → Bool) (fun lo md hi v k => fc AV (fun _ k => k v) lo fun lo => k ⟨lo,md,hi⟩) e v k⟩
          | false => match us b with
            | ⟨fb⟩ => match Nat.blt n 64 with
              | true => some ⟨fun v e k => E.rec (motive := fun _ => AV → (E → Bool) → Bool) (fun lo md hi v k => fb (N8 AV) (fun t k => fc AV (fun _ k => k v) t k) md fun md => k ⟨lo,md,hi⟩) e v k⟩
              | false => match us a with
                | ⟨fa⟩ => some ⟨fun v e k => E.rec (motive := fun _ => AV → (E → Bool) → Bool) (fun lo md hi v k => fa (N8 (N8 AV)) (fun t k => fb (N8 AV) (fun t k => fc AV (fun _ k => k v) t k) t k) hi fun hi => k ⟨lo,md,hi⟩) e v k⟩

noncomputable def hdL (l : List AV) : AV := List.rec (motive := fun _ => AV) und (fun v _ _ => v) l
noncomputable def tlL (l : List AV) : List AV := List.rec (motive := fun _ => List AV) [] (fun _ l _ => l) l
noncomputable def lnL (l : List AV) : Nat := List.rec (motive := fun _ => Nat) 0 (fun _ _ n => Nat.succ n) l
noncomputable def apL (l m : List AV) : List AV := List.rec (motive := fun _ => List AV → List AV) (fun m => m) (fun v _ ih m => v :: ih m) l m
noncomputable def drL (n : Nat) (l : List AV) : List AV := Nat.rec (motive := fun _ => List AV → List AV) (fun l => l) (fun _ ih l => ih (tlL l)) n l
noncomputable def tl8 (l : List AV) : List AV := tlL (tlL (tlL (tlL (tlL (tlL (tlL (tlL l)))))))
noncomputable def pk (l : List AV) : N8 AV := ⟨hdL l,hdL (tlL l),hdL (tlL (tlL l)),hdL (tlL (tlL (tlL l))),hdL (tlL (tlL (tlL (tlL l)))),hdL (tlL (tlL (tlL (tlL (tlL l))))),hdL (tlL (tlL (tlL (tlL (tlL (tlL l)))))),hdL (tlL (tlL (tlL (tlL (tlL (tlL (tlL l))))))) ⟩

abbrev L1 := N8 AV
abbrev L2 := N8 L1
abbrev L3 := N8 L2
abbrev L4 := N8 L3
abbrev L5 := N8 L4
abbrev L6 := N8 L5
inductive Tr where
  | t0 (v : AV)
  | t1 (c : L1)
  | t2 (c : L2)
  | t3 (c : L3)
  | t4 (c : L4)
  | t5 (c : L5)
  | t6 (c : L6)
def l1 : L1 := N8.all und
def l2 : L2 := N8.all l1
def l3 : L3 := N8.all l2
def l4 : L4 := N8.all l3
def l5 : L5 := N8.all l4
def l6 : L6 := N8.all l5
noncomputable def dig (x : Nat) : Dg := Bool.rec (motive := fun _ => Nat → Dg)
  (fun x => Bool.rec (motive := fun _ => Nat → Dg) (fun x => Bool.rec (motive := fun _ => Dg) Dg.d0 Dg.d1 (Nat.ble 1 x)) (fun x => Bool.rec (motive := fun _ => Dg) Dg.d2 Dg.d3 (Nat.ble 3 x)) (Nat.ble 2 x) x)
  (fun x => Bool.rec (motive := fun _ => Nat → Dg) (fun x => Bool.rec (motive := fun _ => Dg) Dg.d4 Dg.d5 (Nat.ble 5 x)) (fun x => Bool.rec (motive := fun _ => Dg) Dg.d6 Dg.d7 (Nat.ble 7 x)) (Nat.ble 6 x) x)
  (Nat.ble 4 x) x
noncomputable def e0 (i : Nat) : Dg := dig (Nat.mod i 8)
noncomputable def e1 (i : Nat) : Dg := dig (Nat.mod (Nat.div i 8) 8)
noncomputable def e2 (i : Nat) : Dg := dig (Nat.mod (Nat.div i 64) 8)
noncomputable def e3 (i : Nat) : Dg := dig (Nat.mod (Nat.div i 512) 8)
noncomputable def e4 (i : Nat) : Dg := dig (Nat.mod (Nat.div i 4096) 8)
noncomputable def e5 (i : Nat) : Dg := dig (Nat.mod (Nat.div i 32768) 8)
noncomputable def g0 (d : Dg) (t : N8 (AV)) : AV := Dg.rec (motive := fun _ => N8 (AV) → AV) (fun t => t.c0) (fun t => t.c1) (fun t => t.c2) (fun t => t.c3) (fun t => t.c4) (fun t => t.c5) (fun t => t.c6) (fun t => t.c7) d t
noncomputable def w0 (d : Dg) (f : AV → AV) (t : N8 (AV)) : N8 (AV) := Dg.rec (motive := fun _ => (AV → AV) → N8 (AV) → N8 (AV)) (fun f t => N8.rec (motive := fun _ => (AV → AV) → N8 (AV)) (fun c0 c1 c2 c3 c4 c5 c6 c7 f => ⟨f c0,c1,c2,c3,c4,c5,c6,c7⟩) t f) (fun f t => N8.rec (motive := fun _ => (AV → AV) → N8 (AV)) (fun c0 c1 c2 c3 c4 c5 c6 c7 f => ⟨c0,f c1,c2,c3,c4,c5,c6,c7⟩) t f) (fun f t => N8.rec (motive := fun _ => (AV → AV) → N8 (AV)) (fun c0 c1 c2 c3 c4 c5 c6 c7 f => ⟨c0,c1,f c2,c3,c4,c5,c6,c7⟩) t f) (fun f t => N8.rec (motive := fun _ => (AV → AV) → N8 (AV)) (fun c0 c1 c2 c3 c4 c5 c6 c7 f => ⟨c0,c1,c2,f c3,c4,c5,c6,c7⟩) t f) (fun f t => N8.rec (motive := fun _ => (AV → AV) → N8 (AV)) (fun c0 c1 c2 c3 c4 c5 c6 c7 f => ⟨c0,c1,c2,c3,f c4,c5,c6,c7⟩) t f) (fun f t => N8.rec (motive := fun _ => (AV → AV) → N8 (AV)) (fun c0 c1 c2 c3 c4 c5 c6 c7 f => ⟨c0,c1,c2,c3,c4,f c5,c6,c7⟩) t f) (fun f t => N8.rec (motive := fun _ => (AV → AV) → N8 (AV)) (fun c0 c1 c2 c3 c4 c5 c6 c7 f => ⟨c0,c1,c2,c3,c4,c5,f c6,c7⟩) t f) (fun f t => N8.rec (motive := fun _ => (AV → AV) → N8 (AV)) (fun c0 c1 c2 c3 c4 c5 c6 c7 f => ⟨c0,c1,c2,c3,c4,c5,c6,f c7⟩) t f) d f t
noncomputable def u0 (d : Dg) (f : (AV → (AV → Bool) → Bool)) (t : N8 (AV)) (k : (N8 (AV) → Bool)) : Bool := Dg.rec (motive := fun _ => (AV → (AV → Bool) → Bool) → N8 (AV) → (N8 (AV) → Bool) → Bool) (fun f t k => N8.rec (motive := fun _ => (AV → (AV → Bool) → Bool) → (N8 (AV) → Bool) → Bool) (fun c0 c1 c2 c3 c4 c5 c6 c7 f k => f c0 fun x => k ⟨x,c1,c2,c3,c4,c5,c6,c7⟩) t f k) (fun f t k => N8.rec (motive := fun _ => (AV → (AV → Bool) → Bool) → (N8 (AV) → Bool) → Bool) (fun c0 c1 c2 c3 c4 c5 c6 c7 f k => f c1 fun x => k ⟨c0,x,c2,c3,c4,c5,c6,c7⟩) t f k) (fun f t k => N8.rec (motive := fun _ => (AV → (AV → Bool) → Bool) → (N8 (AV) → Bool) → Bool) (fun c0 c1 c2 c3 c4 c5 c6 c7 f k => f c2 fun x => k ⟨c0,c1,x,c3,c4,c5,c6,c7⟩) t f k) (fun f t k => N8.rec (motive := fun _ => (AV → (AV → Bool) → Bool) → (N8 (AV) → Bool) → Bool) (fun c0 c1 c2 c3 c4 c5 c6 c7 f k => f c3 fun x => k ⟨c0,c1,c2,x,c4,c5,c6,c7⟩) t f k) (fun f t k => N8.rec (motive := fun _ => (AV → (AV → Bool) → Bool) → (N8 (AV) → Bool) → Bool) (fun c0 c1 c2 c3 c4 c5 c6 c7 f k => f c4 fun x => k ⟨c0,c1,c2,c3,x,c5,c6,c7⟩) t f k) (fun f t k => N8.rec (motive := fun _ => (AV → (AV → Bool) → Bool) → (N8 (AV) → Bool) → Bool) (fun c0 c1 c2 c3 c4 c5 c6 c7 f k => f c5 fun x => k ⟨c0,c1,c2,c3,c4,x,c6,c7⟩) t f k) (fun f t k => N8.rec (motive := fun _ => (AV → (AV → Bool) → Bool) → (N8 (AV) → Bool) → Bool) (fun c0 c1 c2 c3 c4 c5 c6 c7 f k => f c6 fun x => k ⟨c0,c1,c2,c3,c4,c5,x,c7⟩) t f k) (fun f t k => N8.rec (motive := fun _ => (AV → (AV → Bool) → Bool) → (N8 (AV) → Bool) → Bool) (fun c0 c1 c2 c3 c4 c5 c6 c7 f k => f c7 fun x => k ⟨c0,c1,c2,c3,c4,c5,c6,x⟩) t f k) d f t k
noncomputable def g1 (d : Dg) (t : N8 (L1)) : L1 := Dg.rec (motive := fun _ => N8 (L1) → L1) (fun t => t.c0) (fun t => t.c1) (fun t => t.c2) (fun t => t.c3) (fun t => t.c4) (fun t => t.c5) (fun t => t.c6) (fun t => t.c7) d t
noncomputable def w1 (d : Dg) (f : L1 → L1) (t : N8 (L1)) : N8 (L1) := Dg.rec (motive := fun _ => (L1 → L1) → N8 (L1) → N8 (L1)) (fun f t => N8.rec (motive := fun _ => (L1 → L1) → N8 (L1)) (fun c0 c1 c2 c3 c4 c5 c6 c7 f => ⟨f c0,c1,c2,c3,c4,c5,c6,c7⟩) t f) (fun f t => N8.rec (motive := fun _ => (L1 → L1) → N8 (L1)) (fun c0 c1 c2 c3 c4 c5 c6 c7 f => ⟨c0,f c1,c2,c3,c4,c5,c6,c7⟩) t f) (fun f t => N8.rec (motive := fun _ => (L1 → L1) → N8 (L1)) (fun c0 c1 c2 c3 c4 c5 c6 c7 f => ⟨c0,c1,f c2,c3,c4,c5,c6,c7⟩) t f) (fun f t => N8.rec (motive := fun _ => (L1 → L1) → N8 (L1)) (fun c0 c1 c2 c3 c4 c5 c6 c7 f => ⟨c0,c1,c2,f c3,c4,c5,c6,c7⟩) t f) (fun f t => N8.rec (motive := fun _ => (L1 → L1) → N8 (L1)) (fun c0 c1 c2 c3 c4 c5 c6 c7 f => ⟨c0,c1,c2,c3,f c4,c5,c6,c7⟩) t f) (fun f t => N8.rec (motive := fun _ => (L1 → L1) → N8 (L1)) (fun c0 c1 c2 c3 c4 c5 c6 c7 f => ⟨c0,c1,c2,c3,c4,f c5,c6,c7⟩) t f) (fun f t => N8.rec (motive := fun _ => (L1 → L1) → N8 (L1)) (fun c0 c1 c2 c3 c4 c5 c6 c7 f => ⟨c0,c1,c2,c3,c4,c5,f c6,c7⟩) t f) (fun f t => N8.rec (motive := fun _ => (L1 → L1) → N8 (L1)) (fun c0 c1 c2 c3 c4 c5 c6 c7 f => ⟨c0,c1,c2,c3,c4,c5,c6,f c7⟩) t f) d f t
noncomputable def u1 (d : Dg) (f : (L1 → (L1 → Bool) → Bool)) (t : N8 (L1)) (k : (N8 (L1) → Bool)) : Bool := Dg.rec (motive := fun _ => (L1 → (L1 → Bool) → Bool) → N8 (L1) → (N8 (L1) → Bool) → Bool) (fun f t k => N8.rec (motive := fun _ => (L1 → (L1 → Bool) → Bool) → (N8 (L1) → Bool) → Bool) (fun c0 c1 c2 c3 c4 c5 c6 c7 f k => f c0 fun x => k ⟨x,c1,c2,c3,c4,c5,c6,c7⟩) t f k) (fun f t k => N8.rec (motive := fun _ => (L1 → (L1 → Bool) → Bool) → (N8 (L1) → Bool) → Bool) (fun c0 c1 c2 c3 c4 c5 c6 c7 f k => f c1 fun x => k ⟨c0,x,c2,c3,c4,c5,c6,c7⟩) t f k) (fun f t k => N8.rec (motive := fun _ => (L1 → (L1 → Bool) → Bool) → (N8 (L1) → Bool) → Bool) (fun c0 c1 c2 c3 c4 c5 c6 c7 f k => f c2 fun x => k ⟨c0,c1,x,c3,c4,c5,c6,c7⟩) t f k) (fun f t k => N8.rec (motive := fun _ => (L1 → (L1 → Bool) → Bool) → (N8 (L1) → Bool) → Bool) (fun c0 c1 c2 c3 c4 c5 c6 c7 f k => f c3 fun x => k ⟨c0,c1,c2,x,c4,c5,c6,c7⟩) t f k) (fun f t k => N8.rec (motive := fun _ => (L1 → (L1 → Bool) → Bool) → (N8 (L1) → Bool) → Bool) (fun c0 c1 c2 c3 c4 c5 c6 c7 f k => f c4 fun x => k ⟨c0,c1,c2,c3,x,c5,c6,c7⟩) t f k) (fun f t k => N8.rec (motive := fun _ => (L1 → (L1 → Bool) → Bool) → (N8 (L1) → Bool) → Bool) (fun c0 c1 c2 c3 c4 c5 c6 c7 f k => f c5 fun x => k ⟨c0,c1,c2,c3,c4,x,c6,c7⟩) t f k) (fun f t k => N8.rec (motive := fun _ => (L1 → (L1 → Bool) → Bool) → (N8 (L1) → Bool) → Bool) (fun c0 c1 c2 c3 c4 c5 c6 c7 f k => f c6 fun x => k ⟨c0,c1,c2,c3,c4,c5,x,c7⟩) t f k) (fun f t k => N8.rec (motive := fun _ => (L1 → (L1 → Bool) → Bool) → (N8 (L1) → Bool) → Bool) (fun c0 c1 c2 c3 c4 c5 c6 c7 f k => f c7 fun x => k ⟨c0,c1,c2,c3,c4,c5,c6,x⟩) t f k) d f t k
noncomputable def g2 (d : Dg) (t : N8 (L2)) : L2 := Dg.rec (motive := fun _ => N8 (L2) → L2) (fun t => t.c0) (fun t => t.c1) (fun t => t.c2) (fun t => t.c3) (fun t => t.c4) (fun t => t.c5) (fun t => t.c6) (fun t => t.c7) d t
noncomputable def w2 (d : Dg) (f : L2 → L2) (t : N8 (L2)) : N8 (L2) := Dg.rec (motive := fun _ => (L2 → L2) → N8 (L2) → N8 (L2)) (fun f t => N8.rec (motive := fun _ => (L2 → L2) → N8 (L2)) (fun c0 c1 c2 c3 c4 c5 c6 c7 f => ⟨f c0,c1,c2,c3,c4,c5,c6,c7⟩) t f) (fun f t => N8.rec (motive := fun _ => (L2 → L2) → N8 (L2)) (fun c0 c1 c2 c3 c4 c5 c6 c7 f => ⟨c0,f c1,c2,c3,c4,c5,c6,c7⟩) t f) (fun f t => N8.rec (motive := fun _ => (L2 → L2) → N8 (L2)) (fun c0 c1 c2 c3 c4 c5 c6 c7 f => ⟨c0,c1,f c2,c3,c4,c5,c6,c7⟩) t f) (fun f t => N8.rec (motive := fun _ => (L2 → L2) → N8 (L2)) (fun c0 c1 c2 c3 c4 c5 c6 c7 f => ⟨c0,c1,c2,f c3,c4,c5,c6,c7⟩) t f) (fun f t => N8.rec (motive := fun _ => (L2 → L2) → N8 (L2)) (fun c0 c1 c2 c3 c4 c5 c6 c7 f => ⟨c0,c1,c2,c3,f c4,c5,c6,c7⟩) t f) (fun f t => N8.rec (motive := fun _ => (L2 → L2) → N8 (L2)) (fun c0 c1 c2 c3 c4 c5 c6 c7 f => ⟨c0,c1,c2,c3,c4,f c5,c6,c7⟩) t f) (fun f t => N8.rec (motive := fun _ => (L2 → L2) → N8 (L2)) (fun c0 c1 c2 c3 c4 c5 c6 c7 f => ⟨c0,c1,c2,c3,c4,c5,f c6,c7⟩) t f) (fun f t => N8.rec (motive := fun _ => (L2 → L2) → N8 (L2)) (fun c0 c1 c2 c3 c4 c5 c6 c7 f => ⟨c0,c1,c2,c3,c4,c5,c6,f c7⟩) t f) d f t
noncomputable def u2 (d : Dg) (f : (L2 → (L2 → Bool) → Bool)) (t : N8 (L2)) (k : (N8 (L2) → Bool)) : Bool := Dg.rec (motive := fun _ => (L2 → (L2 → Bool) → Bool) → N8 (L2) → (N8 (L2) → Bool) → Bool) (fun f t k => N8.rec (motive := fun _ => (L2 → (L2 → Bool) → Bool) → (N8 (L2) → Bool) → Bool) (fun c0 c1 c2 c3 c4 c5 c6 c7 f k => f c0 fun x => k ⟨x,c1,c2,c3,c4,c5,c6,c7⟩) t f k) (fun f t k => N8.rec (motive := fun _ => (L2 → (L2 → Bool) → Bool) → (N8 (L2) → Bool) → Bool) (fun c0 c1 c2 c3 c4 c5 c6 c7 f k => f c1 fun x => k ⟨c0,x,c2,c3,c4,c5,c6,c7⟩) t f k) (fun f t k => N8.rec (motive := fun _ => (L2 → (L2 → Bool) → Bool) → (N8 (L2) → Bool) → Bool) (fun c0 c1 c2 c3 c4 c5 c6 c7 f k => f c2 fun x => k ⟨c0,c1,x,c3,c4,c5,c6,c7⟩) t f k) (fun f t k => N8.rec (motive := fun _ => (L2 → (L2 → Bool) → Bool) → (N8 (L2) → Bool) → Bool) (fun c0 c1 c2 c3 c4 c5 c6 c7 f k => f c3 fun x => k ⟨c0,c1,c2,x,c4,c5,c6,c7⟩) t f k) (fun f t k => N8.rec (motive := fun _ => (L2 → (L2 → Bool) → Bool) → (N8 (L2) → Bool) → Bool) (fun c0 c1 c2 c3 c4 c5 c6 c7 f k => f c4 fun x => k ⟨c0,c1,c2,c3,x,c5,c6,c7⟩) t f k) (fun f t k => N8.rec (motive := fun _ => (L2 → (L2 → Bool) → Bool) → (N8 (L2) → Bool) → Bool) (fun c0 c1 c2 c3 c4 c5 c6 c7 f k => f c5 fun x => k ⟨c0,c1,c2,c3,c4,x,c6,c7⟩) t f k) (fun f t k => N8.rec (motive := fun _ => (L2 → (L2 → Bool) → Bool) → (N8 (L2) → Bool) → Bool) (fun c0 c1 c2 c3 c4 c5 c6 c7 f k => f c6 fun x => k ⟨c0,c1,c2,c3,c4,c5,x,c7⟩) t f k) (fun f t k => N8.rec (motive := fun _ => (L2 → (L2 → Bool) → Bool) → (N8 (L2) → Bool) → Bool) (fun c0 c1 c2 c3 c4 c5 c6 c7 f k => f c7 fun x => k ⟨c0,c1,c2,c3,c4,c5,c6,x⟩) t f k) d f t k
noncomputable def g3 (d : Dg) (t : N8 (L3)) : L3 := Dg.rec (motive := fun _ => N8 (L3) → L3) (fun t => t.c0) (fun t => t.c1) (fun t => t.c2) (fun t => t.c3) (fun t => t.c4) (fun t => t.c5) (fun t => t.c6) (fun t => t.c7) d t
noncomputable def w3 (d : Dg) (f : L3 → L3) (t : N8 (L3)) : N8 (L3) := Dg.rec (motive := fun _ => (L3 → L3) → N8 (L3) → N8 (L3)) (fun f t => N8.rec (motive := fun _ => (L3 → L3) → N8 (L3)) (fun c0 c1 c2 c3 c4 c5 c6 c7 f => ⟨f c0,c1,c2,c3,c4,c5,c6,c7⟩) t f) (fun f t => N8.rec (motive := fun _ => (L3 → L3) → N8 (L3)) (fun c0 c1 c2 c3 c4 c5 c6 c7 f => ⟨c0,f c1,c2,c3,c4,c5,c6,c7⟩) t f) (fun f t => N8.rec (motive := fun _ => (L3 → L3) → N8 (L3)) (fun c0 c1 c2 c3 c4 c5 c6 c7 f => ⟨c0,c1,f c2,c3,c4,c5,c6,c7⟩) t f) (fun f t => N8.rec (motive := fun _ => (L3 → L3) → N8 (L3)) (fun c0 c1 c2 c3 c4 c5 c6 c7 f => ⟨c0,c1,c2,f c3,c4,c5,c6,c7⟩) t f) (fun f t => N8.rec (motive := fun _ => (L3 → L3) → N8 (L3)) (fun c0 c1 c2 c3 c4 c5 c6 c7 f => ⟨c0,c1,c2,c3,f c4,c5,c6,c7⟩) t f) (fun f t => N8.rec (motive := fun _ => (L3 → L3) → N8 (L3)) (fun c0 c1 c2 c3 c4 c5 c6 c7 f => ⟨c0,c1,c2,c3,c4,f c5,c6,c7⟩) t f) (fun f t => N8.rec (motive := fun _ => (L3 → L3) → N8 (L3)) (fun c0 c1 c2 c3 c4 c5 c6 c7 f => ⟨c0,c1,c2,c3,c4,c5,f c6,c7⟩) t f) (fun f t => N8.rec (motive := fun _ => (L3 → L3) → N8 (L3)) (fun c0 c1 c2 c3 c4 c5 c6 c7 f => ⟨c0,c1,c2,c3,c4,c5,c6,f c7⟩) t f) d f t
noncomputable def u3 (d : Dg) (f : (L3 → (L3 → Bool) → Bool)) (t : N8 (L3)) (k : (N8 (L3) → Bool)) : Bool := Dg.rec (motive := fun _ => (L3 → (L3 → Bool) → Bool) → N8 (L3) → (N8 (L3) → Bool) → Bool) (fun f t k => N8.rec (motive := fun _ => (L3 → (L3 → Bool) → Bool) → (N8 (L3) → Bool) → Bool) (fun c0 c1 c2 c3 c4 c5 c6 c7 f k => f c0 fun x => k ⟨x,c1,c2,c3,c4,c5,c6,c7⟩) t f k) (fun f t k => N8.rec (motive := fun _ => (L3 → (L3 → Bool) → Bool) → (N8 (L3) → Bool) → Bool) (fun c0 c1 c2 c3 c4 c5 c6 c7 f k => f c1 fun x => k ⟨c0,x,c2,c3,c4,c5,c6,c7⟩) t f k) (fun f t k => N8.rec (motive := fun _ => (L3 → (L3 → Bool) → Bool) → (N8 (L3) → Bool) → Bool) (fun c0 c1 c2 c3 c4 c5 c6 c7 f k => f c2 fun x => k ⟨c0,c1,x,c3,c4,c5,c6,c7⟩) t f k) (fun f t k => N8.rec (motive := fun _ => (L3 → (L3 → Bool) → Bool) → (N8 (L3) → Bool) → Bool) (fun c0 c1 c2 c3 c4 c5 c6 c7 f k => f c3 fun x => k ⟨c0,c1,c2,x,c4,c5,c6,c7⟩) t f k) (fun f t k => N8.rec (motive := fun _ => (L3 → (L3 → Bool) → Bool) → (N8 (L3) → Bool) → Bool) (fun c0 c1 c2 c3 c4 c5 c6 c7 f k => f c4 fun x => k ⟨c0,c1,c2,c3,x,c5,c6,c7⟩) t f k) (fun f t k => N8.rec (motive := fun _ => (L3 → (L3 → Bool) → Bool) → (N8 (L3) → Bool) → Bool) (fun c0 c1 c2 c3 c4 c5 c6 c7 f k => f c5 fun x => k ⟨c0,c1,c2,c3,c4,x,c6,c7⟩) t f k) (fun f t k => N8.rec (motive := fun _ => (L3 → (L3 → Bool) → Bool) → (N8 (L3) → Bool) → Bool) (fun c0 c1 c2 c3 c4 c5 c6 c7 f k => f c6 fun x => k ⟨c0,c1,c2,c3,c4,c5,x,c7⟩) t f k) (fun f t k => N8.rec (motive := fun _ => (L3 → (L3 → Bool) → Bool) → (N8 (L3) → Bool) → Bool) (fun c0 c1 c2 c3 c4 c5 c6 c7 f k => f c7 fun x => k ⟨c0,c1,c2,c3,c4,c5,c6,x⟩) t f k) d f t k
noncomputable def g4 (d : Dg) (t : N8 (L4)) : L4 := Dg.rec (motive := fun _ => N8 (L4) → L4) (fun t => t.c0) (fun t => t.c1) (fun t => t.c2) (fun t => t.c3) (fun t => t.c4) (fun t => t.c5) (fun t => t.c6) (fun t => t.c7) d t
noncomputable def w4 (d : Dg) (f : L4 → L4) (t : N8 (L4)) : N8 (L4) := Dg.rec (motive := fun _ => (L4 → L4) → N8 (L4) → N8 (L4)) (fun f t => N8.rec (motive := fun _ => (L4 → L4) → N8 (L4)) (fun c0 c1 c2 c3 c4 c5 c6 c7 f => ⟨f c0,c1,c2,c3,c4,c5,c6,c7⟩) t f) (fun f t => N8.rec (motive := fun _ => (L4 → L4) → N8 (L4)) (fun c0 c1 c2 c3 c4 c5 c6 c7 f => ⟨c0,f c1,c2,c3,c4,c5,c6,c7⟩) t f) (fun f t => N8.rec (motive := fun _ => (L4 → L4) → N8 (L4)) (fun c0 c1 c2 c3 c4 c5 c6 c7 f => ⟨c0,c1,f c2,c3,c4,c5,c6,c7⟩) t f) (fun f t => N8.rec (motive := fun _ => (L4 → L4) → N8 (L4)) (fun c0 c1 c2 c3 c4 c5 c6 c7 f => ⟨c0,c1,c2,f c3,c4,c5,c6,c7⟩) t f) (fun f t => N8.rec (motive := fun _ => (L4 → L4) → N8 (L4)) (fun c0 c1 c2 c3 c4 c5 c6 c7 f => ⟨c0,c1,c2,c3,f c4,c5,c6,c7⟩) t f) (fun f t => N8.rec (motive := fun _ => (L4 → L4) → N8 (L4)) (fun c0 c1 c2 c3 c4 c5 c6 c7 f => ⟨c0,c1,c2,c3,c4,f c5,c6,c7⟩) t f) (fun f t => N8.rec (motive := fun _ => (L4 → L4) → N8 (L4)) (fun c0 c1 c2 c3 c4 c5 c6 c7 f => ⟨c0,c1,c2,c3,c4,c5,f c6,c7⟩) t f) (fun f t => N8.rec (motive := fun _ => (L4 → L4) → N8 (L4)) (fun c0 c1 c2 c3 c4 c5 c6 c7 f => ⟨c0,c1,c2,c3,c4,c5,c6,f c7⟩) t f) d f t
noncomputable def u4 (d : Dg) (f : (L4 → (L4 → Bool) → Bool)) (t : N8 (L4)) (k : (N8 (L4) → Bool)) : Bool := Dg.rec (motive := fun _ => (L4 → (L4 → Bool) → Bool) → N8 (L4) → (N8 (L4) → Bool) → Bool) (fun f t k => N8.rec (motive := fun _ => (L4 → (L4 → Bool) → Bool) → (N8 (L4) → Bool) → Bool) (fun c0 c1 c2 c3 c4 c5 c6 c7 f k => f c0 fun x => k ⟨x,c1,c2,c3,c4,c5,c6,c7⟩) t f k) (fun f t k => N8.rec (motive := fun _ => (L4 → (L4 → Bool) → Bool) → (N8 (L4) → Bool) → Bool) (fun c0 c1 c2 c3 c4 c5 c6 c7 f k => f c1 fun x => k ⟨c0,x,c2,c3,c4,c5,c6,c7⟩) t f k) (fun f t k => N8.rec (motive := fun _ => (L4 → (L4 → Bool) → Bool) → (N8 (L4) → Bool) → Bool) (fun c0 c1 c2 c3 c4 c5 c6 c7 f k => f c2 fun x => k ⟨c0,c1,x,c3,c4,c5,c6,c7⟩) t f k) (fun f t k => N8.rec (motive := fun _ => (L4 → (L4 → Bool) → Bool) → (N8 (L4) → Bool) → Bool) (fun c0 c1 c2 c3 c4 c5 c6 c7 f k => f c3 fun x => k ⟨c0,c1,c2,x,c4,c5,c6,c7⟩) t f k) (fun f t k => N8.rec (motive := fun _ => (L4 → (L4 → Bool) → Bool) → (N8 (L4) → Bool) → Bool) (fun c0 c1 c2 c3 c4 c5 c6 c7 f k => f c4 fun x => k ⟨c0,c1,c2,c3,x,c5,c6,c7⟩) t f k) (fun f t k => N8.rec (motive := fun _ => (L4 → (L4 → Bool) → Bool) → (N8 (L4) → Bool) → Bool) (fun c0 c1 c2 c3 c4 c5 c6 c7 f k => f c5 fun x => k ⟨c0,c1,c2,c3,c4,x,c6,c7⟩) t f k) (fun f t k => N8.rec (motive := fun _ => (L4 → (L4 → Bool) → Bool) → (N8 (L4) → Bool) → Bool) (fun c0 c1 c2 c3 c4 c5 c6 c7 f k => f c6 fun x => k ⟨c0,c1,c2,c3,c4,c5,x,c7⟩) t f k) (fun f t k => N8.rec (motive := fun _ => (L4 → (L4 → Bool) → Bool) → (N8 (L4) → Bool) → Bool) (fun c0 c1 c2 c3 c4 c5 c6 c7 f k => f c7 fun x => k ⟨c0,c1,c2,c3,c4,c5,c6,x⟩) t f k) d f t k
noncomputable def g5 (d : Dg) (t : N8 (L5)) : L5 := Dg.rec (motive := fun _ => N8 (L5) → L5) (fun t => t.c0) (fun t => t.c1) (fun t => t.c2) (fun t => t.c3) (fun t => t.c4) (fun t => t.c5) (fun t => t.c6) (fun t => t.c7) d t
noncomputable def w5 (d : Dg) (f : L5 → L5) (t : N8 (L5)) : N8 (L5) := Dg.rec (motive := fun _ => (L5 → L5) → N8 (L5) → N8 (L5)) (fun f t => N8.rec (motive := fun _ => (L5 → L5) → N8 (L5)) (fun c0 c1 c2 c3 c4 c5 c6 c7 f => ⟨f c0,c1,c2,c3,c4,c5,c6,c7⟩) t f) (fun f t => N8.rec (motive := fun _ => (L5 → L5) → N8 (L5)) (fun c0 c1 c2 c3 c4 c5 c6 c7 f => ⟨c0,f c1,c2,c3,c4,c5,c6,c7⟩) t f) (fun f t => N8.rec (motive := fun _ => (L5 → L5) → N8 (L5)) (fun c0 c1 c2 c3 c4 c5 c6 c7 f => ⟨c0,c1,f c2,c3,c4,c5,c6,c7⟩) t f) (fun f t => N8.rec (motive := fun _ => (L5 → L5) → N8 (L5)) (fun c0 c1 c2 c3 c4 c5 c6 c7 f => ⟨c0,c1,c2,f c3,c4,c5,c6,c7⟩) t f) (fun f t => N8.rec (motive := fun _ => (L5 → L5) → N8 (L5)) (fun c0 c1 c2 c3 c4 c5 c6 c7 f => ⟨c0,c1,c2,c3,f c4,c5,c6,c7⟩) t f) (fun f t => N8.rec (motive := fun _ => (L5 → L5) → N8 (L5)) (fun c0 c1 c2 c3 c4 c5 c6 c7 f => ⟨c0,c1,c2,c3,c4,f c5,c6,c7⟩) t f) (fun f t => N8.rec (motive := fun _ => (L5 → L5) → N8 (L5)) (fun c0 c1 c2 c3 c4 c5 c6 c7 f => ⟨c0,c1,c2,c3,c4,c5,f c6,c7⟩) t f) (fun f t => N8.rec (motive := fun _ => (L5 → L5) → N8 (L5)) (fun c0 c1 c2 c3 c4 c5 c6 c7 f => ⟨c0,c1,c2,c3,c4,c5,c6,f c7⟩) t f) d f t
noncomputable def u5 (d : Dg) (f : (L5 → (L5 → Bool) → Bool)) (t : N8 (L5)) (k : (N8 (L5) → Bool)) : Bool := Dg.rec (motive := fun _ => (L5 → (L5 → Bool) → Bool) → N8 (L5) → (N8 (L5) → Bool) → Bool) (fun f t k => N8.rec (motive := fun _ => (L5 → (L5 → Bool) → Bool) → (N8 (L5) → Bool) → Bool) (fun c0 c1 c2 c3 c4 c5 c6 c7 f k => f c0 fun x => k ⟨x,c1,c2,c3,c4,c5,c6,c7⟩) t f k) (fun f t k => N8.rec (motive := fun _ => (L5 → (L5 → Bool) → Bool) → (N8 (L5) → Bool) → Bool) (fun c0 c1 c2 c3 c4 c5 c6 c7 f k => f c1 fun x => k ⟨c0,x,c2,c3,c4,c5,c6,c7⟩) t f k) (fun f t k => N8.rec (motive := fun _ => (L5 → (L5 → Bool) → Bool) → (N8 (L5) → Bool) → Bool) (fun c0 c1 c2 c3 c4 c5 c6 c7 f k => f c2 fun x => k ⟨c0,c1,x,c3,c4,c5,c6,c7⟩) t f k) (fun f t k => N8.rec (motive := fun _ => (L5 → (L5 → Bool) → Bool) → (N8 (L5) → Bool) → Bool) (fun c0 c1 c2 c3 c4 c5 c6 c7 f k => f c3 fun x => k ⟨c0,c1,c2,x,c4,c5,c6,c7⟩) t f k) (fun f t k => N8.rec (motive := fun _ => (L5 → (L5 → Bool) → Bool) → (N8 (L5) → Bool) → Bool) (fun c0 c1 c2 c3 c4 c5 c6 c7 f k => f c4 fun x => k ⟨c0,c1,c2,c3,x,c5,c6,c7⟩) t f k) (fun f t k => N8.rec (motive := fun _ => (L5 → (L5 → Bool) → Bool) → (N8 (L5) → Bool) → Bool) (fun c0 c1 c2 c3 c4 c5 c6 c7 f k => f c5 fun x => k ⟨c0,c1,c2,c3,c4,x,c6,c7⟩) t f k) (fun f t k => N8.rec (motive := fun _ => (L5 → (L5 → Bool) → Bool) → (N8 (L5) → Bool) → Bool) (fun c0 c1 c2 c3 c4 c5 c6 c7 f k => f c6 fun x => k ⟨c0,c1,c2,c3,c4,c5,x,c7⟩) t f k) (fun f t k => N8.rec (motive := fun _ => (L5 → (L5 → Bool) → Bool) → (N8 (L5) → Bool) → Bool) (fun c0 c1 c2 c3 c4 c5 c6 c7 f k => f c7 fun x => k ⟨c0,c1,c2,c3,c4,c5,c6,x⟩) t f k) d f t k
noncomputable def getT (t : Tr) (i : Nat) : AV := Tr.rec (motive := fun _ => Nat → AV) (fun v _ => v) (fun c i => g0 (e0 i) c) (fun c i => g0 (e0 i) (g1 (e1 i) c)) (fun c i => g0 (e0 i) (g1 (e1 i) (g2 (e2 i) c))) (fun c i => g0 (e0 i) (g1 (e1 i) (g2 (e2 i) (g3 (e3 i) c)))) (fun c i => g0 (e0 i) (g1 (e1 i) (g2 (e2 i) (g3 (e3 i) (g4 (e4 i) c))))) (fun c i => g0 (e0 i) (g1 (e1 i) (g2 (e2 i) (g3 (e3 i) (g4 (e4 i) (g5 (e5 i) c)))))) t i
noncomputable def setT (t : Tr) (i : Nat) (v : AV) (k : Tr → Bool) : Bool := Tr.rec (motive := fun _ => Nat → AV → (Tr → Bool) → Bool) (fun _ _ v k => k (.t0 v)) (fun c i v k => u0 (e0 i) (fun _ k => k v) c fun c => k (.t1 c)) (fun c i v k => u1 (e1 i) (u0 (e0 i) (fun _ k => k v)) c fun c => k (.t2 c)) (fun c i v k => u2 (e2 i) (u1 (e1 i) (u0 (e0 i) (fun _ k => k v))) c fun c => k (.t3 c)) (fun c i v k => u3 (e3 i) (u2 (e2 i) (u1 (e1 i) (u0 (e0 i) (fun _ k => k v)))) c fun c => k (.t4 c)) (fun c i v k => u4 (e4 i) (u3 (e3 i) (u2 (e2 i) (u1 (e1 i) (u0 (e0 i) (fun _ k => k v))))) c fun c => k (.t5 c)) (fun c i v k => u5 (e5 i) (u4 (e4 i) (u3 (e3 i) (u2 (e2 i) (u1 (e1 i) (u0 (e0 i) (fun _ k => k v)))))) c fun c => k (.t6 c)) t i v k
noncomputable def capT (t : Tr) : Nat := Tr.rec (motive := fun _ => Nat) (fun _ => 1) (fun _ => 8) (fun _ => 64) (fun _ => 512) (fun _ => 4096) (fun _ => 32768) (fun _ => 262144) t
noncomputable def wrapT (t : Tr) : Tr := Tr.rec (motive := fun _ => Tr) (fun v => .t1 ⟨v,und,und,und,und,und,und,und⟩) (fun c => .t2 ⟨c,l1,l1,l1,l1,l1,l1,l1⟩) (fun c => .t3 ⟨c,l2,l2,l2,l2,l2,l2,l2⟩) (fun c => .t4 ⟨c,l3,l3,l3,l3,l3,l3,l3⟩) (fun c => .t5 ⟨c,l4,l4,l4,l4,l4,l4,l4⟩) (fun c => .t6 ⟨c,l5,l5,l5,l5,l5,l5,l5⟩) (fun c => .t6 c) t
noncomputable def fitT (f : Nat) (t : Tr) (n : Nat) : Tr := Nat.rec (motive := fun _ => Tr → Nat → Tr) (fun t _ => t) (fun _ ih t n => Bool.rec (motive := fun _ => (Tr → Nat → Tr) → Tr → Nat → Tr) (fun ih t n => ih (wrapT t) n) (fun _ t _ => t) (Nat.ble n (capT t)) ih t n) f t n
noncomputable def n1 (t : Tr) (q : Nat) : L1 := Tr.rec (motive := fun _ => Nat → L1) (fun v _ => N8.all v) (fun c _ => c) (fun c q => g1 (e0 q) c) (fun c q => g1 (e0 q) (g2 (e1 q) c)) (fun c q => g1 (e0 q) (g2 (e1 q) (g3 (e2 q) c))) (fun c q => g1 (e0 q) (g2 (e1 q) (g3 (e2 q) (g4 (e3 q) c)))) (fun c q => g1 (e0 q) (g2 (e1 q) (g3 (e2 q) (g4 (e3 q) (g5 (e4 q) c))))) t q
noncomputable def sN (t : Tr) (q : Nat) (c : L1) (k : Tr → Bool) : Bool := Tr.rec (motive := fun _ => Nat → L1 → (Tr → Bool) → Bool) (fun _ _ c k => k (.t0 c.c0)) (fun _ _ c k => k (.t1 c)) (fun t q c k => u1 (e0 q) (fun _ k => k c) t fun t => k (.t2 t)) (fun t q c k => u2 (e1 q) (u1 (e0 q) (fun _ k => k c)) t fun t => k (.t3 t)) (fun t q c k => u3 (e2 q) (u2 (e1 q) (u1 (e0 q) (fun _ k => k c))) t fun t => k (.t4 t)) (fun t q c k => u4 (e3 q) (u3 (e2 q) (u2 (e1 q) (u1 (e0 q) (fun _ k => k c)))) t fun t => k (.t5 t)) (fun t q c k => u5 (e4 q) (u4 (e3 q) (u3 (e2 q) (u2 (e1 q) (u1 (e0 q) (fun _ k => k c))))) t fun t => k (.t6 t)) t q c k
noncomputable def nodeL (c : L1) (k : List AV → Bool) : Bool := N8.rec (motive := fun _ => (List AV → Bool) → Bool) (fun c0 c1 c2 c3 c4 c5 c6 c7 k => k [c0,c1,c2,c3,c4,c5,c6,c7]) c k
noncomputable def stp (o : AV) (r : Nat) (l : List AV) (k : AV → Nat → List AV → Bool) : Bool := Nat.rec (motive := fun _ => AV → List AV → (AV → Nat → List AV → Bool) → Bool) (fun o l k => List.rec (motive := fun _ => AV → (AV → Nat → List AV → Bool) → Bool) (fun o k => k o 0 []) (fun v l _ _ k => k v 0 l) l o k) (fun r _ o l k => k o r l) r o l k
noncomputable def mixN (c : L1) (r : Nat) (l : List AV) (k : L1 → List AV → Bool) : Bool := N8.rec (motive := fun _ => Nat → List AV → (L1 → List AV → Bool) → Bool) (fun c0 c1 c2 c3 c4 c5 c6 c7 r l k => stp c0 r l fun x0 r l => stp c1 r l fun x1 r l => stp c2 r l fun x2 r l => stp c3 r l fun x3 r l => stp c4 r l fun x4 r l => stp c5 r l fun x5 r l => stp c6 r l fun x6 r l => stp c7 r l fun x7 r l => k ⟨x0,x1,x2,x3,x4,x5,x6,x7⟩ l) c r l k
noncomputable def wrF (f : Nat) (l : List AV) (t : Tr) (i : Nat) (k : Tr → Bool) : Bool := Nat.rec (motive := fun _ => List AV → Tr → Nat → (Tr → Bool) → Bool) (fun _ t _ k => k t)
  (fun _ ih l t i k => List.rec (motive := fun _ => (List AV → Tr → Nat → (Tr → Bool) → Bool) → Tr → Nat → (Tr → Bool) → Bool) (fun _ t _ k => k t) (fun v l _ ih t i k => mixN (n1 t (Nat.div i 8)) (Nat.mod i 8) (v :: l) fun c l => sN t (Nat.div i 8) c fun t => ih l t (Nat.mul 8 (Nat.succ (Nat.div i 8))) k) l ih t i k) f l t i k
noncomputable def putW (l : List AV) (t : Tr) (i : Nat) (k : Tr → Bool) : Bool := List.rec (motive := fun _ => Tr → Nat → (Tr → Bool) → Bool) (fun t _ k => k t) (fun v _ ih t i k => setT t i v fun t => ih t (Nat.succ i) k) l t i k
noncomputable def putL (l : List AV) (t : Tr) (i : Nat) (k : Tr → Bool) : Bool := Bool.rec (motive := fun _ => List AV → Tr → Nat → (Tr → Bool) → Bool) (fun l t i k => putW l t i k) (fun l t i k => wrF (lnL l) l t i k) (Nat.ble 2 (lnL l) && Nat.ble (Nat.add i (lnL l)) (capT t)) l t i k
noncomputable def getL (m : Nat) (t : Tr) (i : Nat) : List AV := Nat.rec (motive := fun _ => Tr → Nat → List AV) (fun _ _ => []) (fun _ ih t i => getT t i :: ih t (Nat.succ i)) m t i
noncomputable def allT (n : Nat) (v : AV) : Tr := Bool.rec (motive := fun _ => Nat → AV → Tr) (fun n v => Bool.rec (motive := fun _ => Nat → AV → Tr) (fun n v => Bool.rec (motive := fun _ => Nat → AV → Tr) (fun n v => Bool.rec (motive := fun _ => Nat → AV → Tr) (fun n v => Bool.rec (motive := fun _ => Nat → AV → Tr) (fun n v => Bool.rec (motive := fun _ => Nat → AV → Tr) (fun _ v => .t6 (N8.all (N8.all (N8.all (N8.all (N8.all (N8.all v))))))) (fun _ v => .t5 (N8.all (N8.all (N8.all (N8.all (N8.all v)))))) (Nat.ble n 32768) n v) (fun _ v => .t4 (N8.all (N8.all (N8.all (N8.all v))))) (Nat.ble n 4096) n v) (fun _ v => .t3 (N8.all (N8.all (N8.all v)))) (Nat.ble n 512) n v) (fun _ v => .t2 (N8.all (N8.all v))) (Nat.ble n 64) n v) (fun _ v => .t1 (N8.all v)) (Nat.ble n 8) n v) (fun _ v => .t0 v) (Nat.ble n 1) n v
noncomputable def toT (l : List AV) (k : Tr → Bool) : Bool := Bool.rec (motive := fun _ => List AV → (Tr → Bool) → Bool) (fun l k => Bool.rec (motive := fun _ => List AV → (Tr → Bool) → Bool) (fun l k => putL l (allT (lnL l) und) 0 k) (fun l k => k (.t1 (pk l))) (Nat.ble (lnL l) 8) l k) (fun l k => k (.t0 (hdL l))) (Nat.ble (lnL l) 1) l k

structure Bk where
  z : Zf
  n : Nat
  t : Tr
abbrev OB := Option Bk
abbrev H1 := N8 OB
abbrev H2 := N8 H1
abbrev H3 := N8 H2
abbrev H4 := N8 H3
abbrev H5 := N8 H4
abbrev H6 := N8 H5
def h1 : H1 := N8.all none
def h2 : H2 := N8.all h1
def h3 : H3 := N8.all h2
def h4 : H4 := N8.all h3
def h5 : H5 := N8.all h4
def h6 : H6 := N8.all h5
noncomputable def gB (d : Dg) (t : N8 (OB)) : OB := Dg.rec (motive := fun _ => N8 (OB) → OB) (fun t => t.c0) (fun t => t.c1) (fun t => t.c2) (fun t => t.c3) (fun t => t.c4) (fun t => t.c5) (fun t => t.c6) (fun t => t.c7) d t
noncomputable def uB (d : Dg) (f : (OB → (OB → Bool) → Bool)) (t : N8 (OB)) (k : (N8 (OB) → Bool)) : Bool := Dg.rec (motive := fun _ => (OB → (OB → Bool) → Bool) → N8 (OB) → (N8 (OB) → Bool) → Bool) (fun f t k => N8.rec (motive := fun _ => (OB → (OB → Bool) → Bool) → (N8 (OB) → Bool) → Bool) (fun c0 c1 c2 c3 c4 c5 c6 c7 f k => f c0 fun x => k ⟨x,c1,c2,c3,c4,c5,c6,c7⟩) t f k) (fun f t k => N8.rec (motive := fun _ => (OB → (OB → Bool) → Bool) → (N8 (OB) → Bool) → Bool) (fun c0 c1 c2 c3 c4 c5 c6 c7 f k => f c1 fun x => k ⟨c0,x,c2,c3,c4,c5,c6,c7⟩) t f k) (fun f t k => N8.rec (motive := fun _ => (OB → (OB → Bool) → Bool) → (N8 (OB) → Bool) → Bool) (fun c0 c1 c2 c3 c4 c5 c6 c7 f k => f c2 fun x => k ⟨c0,c1,x,c3,c4,c5,c6,c7⟩) t f k) (fun f t k => N8.rec (motive := fun _ => (OB → (OB → Bool) → Bool) → (N8 (OB) → Bool) → Bool) (fun c0 c1 c2 c3 c4 c5 c6 c7 f k => f c3 fun x => k ⟨c0,c1,c2,x,c4,c5,c6,c7⟩) t f k) (fun f t k => N8.rec (motive := fun _ => (OB → (OB → Bool) → Bool) → (N8 (OB) → Bool) → Bool) (fun c0 c1 c2 c3 c4 c5 c6 c7 f k => f c4 fun x => k ⟨c0,c1,c2,c3,x,c5,c6,c7⟩) t f k) (fun f t k => N8.rec (motive := fun _ => (OB → (OB → Bool) → Bool) → (N8 (OB) → Bool) → Bool) (fun c0 c1 c2 c3 c4 c5 c6 c7 f k => f c5 fun x => k ⟨c0,c1,c2,c3,c4,x,c6,c7⟩) t f k) (fun f t k => N8.rec (motive := fun _ => (OB → (OB → Bool) → Bool) → (N8 (OB) → Bool) → Bool) (fun c0 c1 c2 c3 c4 c5 c6 c7 f k => f c6 fun x => k ⟨c0,c1,c2,c3,c4,c5,x,c7⟩) t f k) (fun f t k => N8.rec (motive := fun _ => (OB → (OB → Bool) → Bool) → (N8 (OB) → Bool) → Bool) (fun c0 c1 c2 c3 c4 c5 c6 c7 f k => f c7 fun x => k ⟨c0,c1,c2,c3,c4,c5,c6,x⟩) t f k) d f t k
noncomputable def gH1 (d : Dg) (t : N8 (H1)) : H1 := Dg.rec (motive := fun _ => N8 (H1) → H1) (fun t => t.c0) (fun t => t.c1) (fun t => t.c2) (fun t => t.c3) (fun t => t.c4) (fun t => t.c5) (fun t => t.c6) (fun t => t.c7) d t
noncomputable def uH1 (d : Dg) (f : (H1 → (H1 → Bool) → Bool)) (t : N8 (H1)) (k : (N8 (H1) → Bool)) : Bool := Dg.rec (motive := fun _ => (H1 → (H1 → Bool) → Bool) → N8 (H1) → (N8 (H1) → Bool) → Bool) (fun f t k => N8.rec (motive := fun _ => (H1 → (H1 → Bool) → Bool) → (N8 (H1) → Bool) → Bool) (fun c0 c1 c2 c3 c4 c5 c6 c7 f k => f c0 fun x => k ⟨x,c1,c2,c3,c4,c5,c6,c7⟩) t f k) (fun f t k => N8.rec (motive := fun _ => (H1 → (H1 → Bool) → Bool) → (N8 (H1) → Bool) → Bool) (fun c0 c1 c2 c3 c4 c5 c6 c7 f k => f c1 fun x => k ⟨c0,x,c2,c3,c4,c5,c6,c7⟩) t f k) (fun f t k => N8.rec (motive := fun _ => (H1 → (H1 → Bool) → Bool) → (N8 (H1) → Bool) → Bool) (fun c0 c1 c2 c3 c4 c5 c6 c7 f k => f c2 fun x => k ⟨c0,c1,x,c3,c4,c5,c6,c7⟩) t f k) (fun f t k => N8.rec (motive := fun _ => (H1 → (H1 → Bool) → Bool) → (N8 (H1) → Bool) → Bool) (fun c0 c1 c2 c3 c4 c5 c6 c7 f k => f c3 fun x => k ⟨c0,c1,c2,x,c4,c5,c6,c7⟩) t f k) (fun f t k => N8.rec (motive := fun _ => (H1 → (H1 → Bool) → Bool) → (N8 (H1) → Bool) → Bool) (fun c0 c1 c2 c3 c4 c5 c6 c7 f k => f c4 fun x => k ⟨c0,c1,c2,c3,x,c5,c6,c7⟩) t f k) (fun f t k => N8.rec (motive := fun _ => (H1 → (H1 → Bool) → Bool) → (N8 (H1) → Bool) → Bool) (fun c0 c1 c2 c3 c4 c5 c6 c7 f k => f c5 fun x => k ⟨c0,c1,c2,c3,c4,x,c6,c7⟩) t f k) (fun f t k => N8.rec (motive := fun _ => (H1 → (H1 → Bool) → Bool) → (N8 (H1) → Bool) → Bool) (fun c0 c1 c2 c3 c4 c5 c6 c7 f k => f c6 fun x => k ⟨c0,c1,c2,c3,c4,c5,x,c7⟩) t f k) (fun f t k => N8.rec (motive := fun _ => (H1 → (H1 → Bool) → Bool) → (N8 (H1) → Bool) → Bool) (fun c0 c1 c2 c3 c4 c5 c6 c7 f k => f c7 fun x => k ⟨c0,c1,c2,c3,c4,c5,c6,x⟩) t f k) d f t k
noncomputable def gH2 (d : Dg) (t : N8 (H2)) : H2 := Dg.rec (motive := fun _ => N8 (H2) → H2) (fun t => t.c0) (fun t => t.c1) (fun t => t.c2) (fun t => t.c3) (fun t => t.c4) (fun t => t.c5) (fun t => t.c6) (fun t => t.c7) d t
noncomputable def uH2 (d : Dg) (f : (H2 → (H2 → Bool) → Bool)) (t : N8 (H2)) (k : (N8 (H2) → Bool)) : Bool := Dg.rec (motive := fun _ => (H2 → (H2 → Bool) → Bool) → N8 (H2) → (N8 (H2) → Bool) → Bool) (fun f t k => N8.rec (motive := fun _ => (H2 → (H2 → Bool) → Bool) → (N8 (H2) → Bool) → Bool) (fun c0 c1 c2 c3 c4 c5 c6 c7 f k => f c0 fun x => k ⟨x,c1,c2,c3,c4,c5,c6,c7⟩) t f k) (fun f t k => N8.rec (motive := fun _ => (H2 → (H2 → Bool) → Bool) → (N8 (H2) → Bool) → Bool) (fun c0 c1 c2 c3 c4 c5 c6 c7 f k => f c1 fun x => k ⟨c0,x,c2,c3,c4,c5,c6,c7⟩) t f k) (fun f t k => N8.rec (motive := fun _ => (H2 → (H2 → Bool) → Bool) → (N8 (H2) → Bool) → Bool) (fun c0 c1 c2 c3 c4 c5 c6 c7 f k => f c2 fun x => k ⟨c0,c1,x,c3,c4,c5,c6,c7⟩) t f k) (fun f t k => N8.rec (motive := fun _ => (H2 → (H2 → Bool) → Bool) → (N8 (H2) → Bool) → Bool) (fun c0 c1 c2 c3 c4 c5 c6 c7 f k => f c3 fun x => k ⟨c0,c1,c2,x,c4,c5,c6,c7⟩) t f k) (fun f t k => N8.rec (motive := fun _ => (H2 → (H2 → Bool) → Bool) → (N8 (H2) → Bool) → Bool) (fun c0 c1 c2 c3 c4 c5 c6 c7 f k => f c4 fun x => k ⟨c0,c1,c2,c3,x,c5,c6,c7⟩) t f k) (fun f t k => N8.rec (motive := fun _ => (H2 → (H2 → Bool) → Bool) → (N8 (H2) → Bool) → Bool) (fun c0 c1 c2 c3 c4 c5 c6 c7 f k => f c5 fun x => k ⟨c0,c1,c2,c3,c4,x,c6,c7⟩) t f k) (fun f t k => N8.rec (motive := fun _ => (H2 → (H2 → Bool) → Bool) → (N8 (H2) → Bool) → Bool) (fun c0 c1 c2 c3 c4 c5 c6 c7 f k => f c6 fun x => k ⟨c0,c1,c2,c3,c4,c5,x,c7⟩) t f k) (fun f t k => N8.rec (motive := fun _ => (H2 → (H2 → Bool) → Bool) → (N8 (H2) → Bool) → Bool) (fun c0 c1 c2 c3 c4 c5 c6 c7 f k => f c7 fun x => k ⟨c0,c1,c2,c3,c4,c5,c6,x⟩) t f k) d f t k
noncomputable def gH3 (d : Dg) (t : N8 (H3)) : H3 := Dg.rec (motive := fun _ => N8 (H3) → H3) (fun t => t.c0) (fun t => t.c1) (fun t => t.c2) (fun t => t.c3) (fun t => t.c4) (fun t => t.c5) (fun t => t.c6) (fun t => t.c7) d t
noncomputable def uH3 (d : Dg) (f : (H3 → (H3 → Bool) → Bool)) (t : N8 (H3)) (k : (N8 (H3) → Bool)) : Bool := Dg.rec (motive := fun _ => (H3 → (H3 → Bool) → Bool) → N8 (H3) → (N8 (H3) → Bool) → Bool) (fun f t k => N8.rec (motive := fun _ => (H3 → (H3 → Bool) → Bool) → (N8 (H3) → Bool) → Bool) (fun c0 c1 c2 c3 c4 c5 c6 c7 f k => f c0 fun x => k ⟨x,c1,c2,c3,c4,c5,c6,c7⟩) t f k) (fun f t k => N8.rec (motive := fun _ => (H3 → (H3 → Bool) → Bool) → (N8 (H3) → Bool) → Bool) (fun c0 c1 c2 c3 c4 c5 c6 c7 f k => f c1 fun x => k ⟨c0,x,c2,c3,c4,c5,c6,c7⟩) t f k) (fun f t k => N8.rec (motive := fun _ => (H3 → (H3 → Bool) → Bool) → (N8 (H3) → Bool) → Bool) (fun c0 c1 c2 c3 c4 c5 c6 c7 f k => f c2 fun x => k ⟨c0,c1,x,c3,c4,c5,c6,c7⟩) t f k) (fun f t k => N8.rec (motive := fun _ => (H3 → (H3 → Bool) → Bool) → (N8 (H3) → Bool) → Bool) (fun c0 c1 c2 c3 c4 c5 c6 c7 f k => f c3 fun x => k ⟨c0,c1,c2,x,c4,c5,c6,c7⟩) t f k) (fun f t k => N8.rec (motive := fun _ => (H3 → (H3 → Bool) → Bool) → (N8 (H3) → Bool) → Bool) (fun c0 c1 c2 c3 c4 c5 c6 c7 f k => f c4 fun x => k ⟨c0,c1,c2,c3,x,c5,c6,c7⟩) t f k) (fun f t k => N8.rec (motive := fun _ => (H3 → (H3 → Bool) → Bool) → (N8 (H3) → Bool) → Bool) (fun c0 c1 c2 c3 c4 c5 c6 c7 f k => f c5 fun x => k ⟨c0,c1,c2,c3,c4,x,c6,c7⟩) t f k) (fun f t k => N8.rec (motive := fun _ => (H3 → (H3 → Bool) → Bool) → (N8 (H3) → Bool) → Bool) (fun c0 c1 c2 c3 c4 c5 c6 c7 f k => f c6 fun x => k ⟨c0,c1,c2,c3,c4,c5,x,c7⟩) t f k) (fun f t k => N8.rec (motive := fun _ => (H3 → (H3 → Bool) → Bool) → (N8 (H3) → Bool) → Bool) (fun c0 c1 c2 c3 c4 c5 c6 c7 f k => f c7 fun x => k ⟨c0,c1,c2,c3,c4,c5,c6,x⟩) t f k) d f t k
noncomputable def gH4 (d : Dg) (t : N8 (H4)) : H4 := Dg.rec (motive := fun _ => N8 (H4) → H4) (fun t => t.c0) (fun t => t.c1) (fun t => t.c2) (fun t => t.c3) (fun t => t.c4) (fun t => t.c5) (fun t => t.c6) (fun t => t.c7) d t
noncomputable def uH4 (d : Dg) (f : (H4 → (H4 → Bool) → Bool)) (t : N8 (H4)) (k : (N8 (H4) → Bool)) : Bool := Dg.rec (motive := fun _ => (H4 → (H4 → Bool) → Bool) → N8 (H4) → (N8 (H4) → Bool) → Bool) (fun f t k => N8.rec (motive := fun _ => (H4 → (H4 → Bool) → Bool) → (N8 (H4) → Bool) → Bool) (fun c0 c1 c2 c3 c4 c5 c6 c7 f k => f c0 fun x => k ⟨x,c1,c2,c3,c4,c5,c6,c7⟩) t f k) (fun f t k => N8.rec (motive := fun _ => (H4 → (H4 → Bool) → Bool) → (N8 (H4) → Bool) → Bool) (fun c0 c1 c2 c3 c4 c5 c6 c7 f k => f c1 fun x => k ⟨c0,x,c2,c3,c4,c5,c6,c7⟩) t f k) (fun f t k => N8.rec (motive := fun _ => (H4 → (H4 → Bool) → Bool) → (N8 (H4) → Bool) → Bool) (fun c0 c1 c2 c3 c4 c5 c6 c7 f k => f c2 fun x => k ⟨c0,c1,x,c3,c4,c5,c6,c7⟩) t f k) (fun f t k => N8.rec (motive := fun _ => (H4 → (H4 → Bool) → Bool) → (N8 (H4) → Bool) → Bool) (fun c0 c1 c2 c3 c4 c5 c6 c7 f k => f c3 fun x => k ⟨c0,c1,c2,x,c4,c5,c6,c7⟩) t f k) (fun f t k => N8.rec (motive := fun _ => (H4 → (H4 → Bool) → Bool) → (N8 (H4) → Bool) → Bool) (fun c0 c1 c2 c3 c4 c5 c6 c7 f k => f c4 fun x => k ⟨c0,c1,c2,c3,x,c5,c6,c7⟩) t f k) (fun f t k => N8.rec (motive := fun _ => (H4 → (H4 → Bool) → Bool) → (N8 (H4) → Bool) → Bool) (fun c0 c1 c2 c3 c4 c5 c6 c7 f k => f c5 fun x => k ⟨c0,c1,c2,c3,c4,x,c6,c7⟩) t f k) (fun f t k => N8.rec (motive := fun _ => (H4 → (H4 → Bool) → Bool) → (N8 (H4) → Bool) → Bool) (fun c0 c1 c2 c3 c4 c5 c6 c7 f k => f c6 fun x => k ⟨c0,c1,c2,c3,c4,c5,x,c7⟩) t f k) (fun f t k => N8.rec (motive := fun _ => (H4 → (H4 → Bool) → Bool) → (N8 (H4) → Bool) → Bool) (fun c0 c1 c2 c3 c4 c5 c6 c7 f k => f c7 fun x => k ⟨c0,c1,c2,c3,c4,c5,c6,x⟩) t f k) d f t k
noncomputable def gH5 (d : Dg) (t : N8 (H5)) : H5 := Dg.rec (motive := fun _ => N8 (H5) → H5) (fun t => t.c0) (fun t => t.c1) (fun t => t.c2) (fun t => t.c3) (fun t => t.c4) (fun t => t.c5) (fun t => t.c6) (fun t => t.c7) d t
noncomputable def uH5 (d : Dg) (f : (H5 → (H5 → Bool) → Bool)) (t : N8 (H5)) (k : (N8 (H5) → Bool)) : Bool := Dg.rec (motive := fun _ => (H5 → (H5 → Bool) → Bool) → N8 (H5) → (N8 (H5) → Bool) → Bool) (fun f t k => N8.rec (motive := fun _ => (H5 → (H5 → Bool) → Bool) → (N8 (H5) → Bool) → Bool) (fun c0 c1 c2 c3 c4 c5 c6 c7 f k => f c0 fun x => k ⟨x,c1,c2,c3,c4,c5,c6,c7⟩) t f k) (fun f t k => N8.rec (motive := fun _ => (H5 → (H5 → Bool) → Bool) → (N8 (H5) → Bool) → Bool) (fun c0 c1 c2 c3 c4 c5 c6 c7 f k => f c1 fun x => k ⟨c0,x,c2,c3,c4,c5,c6,c7⟩) t f k) (fun f t k => N8.rec (motive := fun _ => (H5 → (H5 → Bool) → Bool) → (N8 (H5) → Bool) → Bool) (fun c0 c1 c2 c3 c4 c5 c6 c7 f k => f c2 fun x => k ⟨c0,c1,x,c3,c4,c5,c6,c7⟩) t f k) (fun f t k => N8.rec (motive := fun _ => (H5 → (H5 → Bool) → Bool) → (N8 (H5) → Bool) → Bool) (fun c0 c1 c2 c3 c4 c5 c6 c7 f k => f c3 fun x => k ⟨c0,c1,c2,x,c4,c5,c6,c7⟩) t f k) (fun f t k => N8.rec (motive := fun _ => (H5 → (H5 → Bool) → Bool) → (N8 (H5) → Bool) → Bool) (fun c0 c1 c2 c3 c4 c5 c6 c7 f k => f c4 fun x => k ⟨c0,c1,c2,c3,x,c5,c6,c7⟩) t f k) (fun f t k => N8.rec (motive := fun _ => (H5 → (H5 → Bool) → Bool) → (N8 (H5) → Bool) → Bool) (fun c0 c1 c2 c3 c4 c5 c6 c7 f k => f c5 fun x => k ⟨c0,c1,c2,c3,c4,x,c6,c7⟩) t f k) (fun f t k => N8.rec (motive := fun _ => (H5 → (H5 → Bool) → Bool) → (N8 (H5) → Bool) → Bool) (fun c0 c1 c2 c3 c4 c5 c6 c7 f k => f c6 fun x => k ⟨c0,c1,c2,c3,c4,c5,x,c7⟩) t f k) (fun f t k => N8.rec (motive := fun _ => (H5 → (H5 → Bool) → Bool) → (N8 (H5) → Bool) → Bool) (fun c0 c1 c2 c3 c4 c5 c6 c7 f k => f c7 fun x => k ⟨c0,c1,c2,c3,c4,c5,c6,x⟩) t f k) d f t k
noncomputable def look (id : Id) (h : H6) : OB := gB id.f (gH1 id.e (gH2 id.d (gH3 id.c (gH4 id.b (gH5 id.a h)))))
noncomputable def lay (id : Id) (b : OB) (h : H6) (k : H6 → Bool) : Bool := uH5 id.a (uH4 id.b (uH3 id.c (uH2 id.d (uH1 id.e (uB id.f fun _ k => k b))))) h k
structure St where
  tr : Bool
  h : H6
  n : Id
  r : List Rng
  w : List Rng

def M (α : Type) : Type := St → (α → St → Bool) → Bool
namespace M
def pure {α : Type} (a : α) : M α := fun s k => k a s
def no {α : Type} : M α := fun _ _ => false
def bind {α β : Type} (m : M α) (f : α → M β) : M β := fun s k => m s fun a t => f a t k
noncomputable def ofO {α β : Type} (o : Option α) (f : α → M β) : M β := Option.rec (motive := fun _ => (α → M β) → M β) (fun _ => no) (fun a f => f a) o f
noncomputable def ifB {β : Type} (b : Bool) (m : M β) : M β := Bool.rec (motive := fun _ => M β → M β) (fun _ => no) (fun m => m) b m
end M
noncomputable def lgR (s : St) (id : Id) (lo m : Nat) (k : St → Bool) : Bool := Bool.rec (motive := fun _ => St → Id → Nat → Nat → (St → Bool) → Bool) (fun s _ _ _ k => k s)
  (fun s id lo m k => St.rec (motive := fun _ => Id → Nat → Nat → (St → Bool) → Bool) (fun _ h n r w id lo m k => k ⟨true,h,n,⟨id,lo,m⟩ :: r,w⟩) s id lo m k) s.tr s id lo m k
noncomputable def lgW (s : St) (id : Id) (lo m : Nat) (k : St → Bool) : Bool := Bool.rec (motive := fun _ => St → Id → Nat → Nat → (St → Bool) → Bool) (fun s _ _ _ k => k s)
  (fun s id lo m k => St.rec (motive := fun _ => Id → Nat → Nat → (St → Bool) → Bool) (fun _ h n r w id lo m k => k ⟨true,h,n,r,⟨id,lo,m⟩ :: w⟩) s id lo m k) s.tr s id lo m k
noncomputable def reH (s : St) (f : H6 → (H6 → Bool) → Bool) (k : St → Bool) : Bool := St.rec (motive := fun _ => (H6 → (H6 → Bool) → Bool) → (St → Bool) → Bool) (fun tr h n r w f k => f h fun h => k ⟨tr,h,n,r,w⟩) s f k
noncomputable def reN (s : St) (f : H6 → (H6 → Bool) → Bool) (n : Id) (k : St → Bool) : Bool := St.rec (motive := fun _ => (H6 → (H6 → Bool) → Bool) → Id → (St → Bool) → Bool) (fun tr h _ r w f n k => f h fun h => k ⟨tr,h,n,r,w⟩) s f n k
noncomputable def hasH (h : H6) (id : Id) (top : Nat) (k : Bk → Bool) : Bool := Option.rec (motive := fun _ => Nat → (Bk → Bool) → Bool) (fun _ _ => false)
  (fun b top k => Bool.rec (motive := fun _ => Bk → (Bk → Bool) → Bool) (fun _ _ => false) (fun b k => k b) (Nat.ble top b.n) b k) (look id h) top k
noncomputable def hasB (id : Id) (top : Nat) (s : St) (k : Bk → Bool) : Bool := St.rec (motive := fun _ => Id → Nat → (Bk → Bool) → Bool) (fun _ h _ _ _ id top k => hasH h id top k) s id top k
noncomputable def fo1 (v : AV) (k : AV → Bool) : Bool := AV.rec (motive_1 := fun _ => (AV → Bool) → Bool) (motive_2 := fun _ => Unit) (fun x k => k (.b x)) (fun k0 x k => k (.i k0 x)) (fun x k => k (.s x)) (fun k => k (.p0)) (fun id off k => k (.p id off)) (fun k => k (.s0)) (fun id off len cap k => k (.sl id off len cap)) (fun id off len k0 w0 k => k (.so id off len k0 w0)) (fun k => k (.f0)) (fun fn first cap _ _ k => k (.f fn first cap)) (fun k => k (.i0)) (fun k => k (.m0)) (fun id k => k (.m id)) (fun xs _ k => k (.ag xs)) (fun xs _ k => k (.tu xs)) () (fun _ _ _ _ => ()) v k
noncomputable def rd1 (id : Id) (off : Nat) : M AV := fun s k => hasB id (Nat.succ off) s fun b => lgR s id off 1 fun s => fo1 (getT b.t off) fun v => k v s
noncomputable def feed (l : List AV) (m : Nat) (k : List AV → Bool) (nx : Nat → (List AV → Bool) → Bool) : Bool := List.rec (motive := fun _ => Nat → (List AV → Bool) → (Nat → (List AV → Bool) → Bool) → Bool) (fun m k nx => nx m k)
  (fun v _ ih m k nx => Nat.rec (motive := fun _ => AV → (Nat → (List AV → Bool) → (Nat → (List AV → Bool) → Bool) → Bool) → (List AV → Bool) → (Nat → (List AV → Bool) → Bool) → Bool) (fun _ _ k _ => k []) (fun m _ v ih k nx => fo1 v fun v => ih m (fun l => k (v :: l)) nx) m v ih k nx) l m k nx
noncomputable def rdF (f : Nat) (t : Tr) (q m : Nat) (k : List AV → Bool) : Bool := Nat.rec (motive := fun _ => Tr → Nat → Nat → (List AV → Bool) → Bool) (fun _ _ _ k => k []) (fun _ ih t q m k => nodeL (n1 t q) fun l => feed l m k fun m k => ih t (Nat.succ q) m k) f t q m k
noncomputable def getK (m : Nat) (t : Tr) (i : Nat) (k : List AV → Bool) : Bool := nodeL (n1 t (Nat.div i 8)) fun l => feed (drL (Nat.mod i 8) l) m k fun m k => rdF m t (Nat.succ (Nat.div i 8)) m k
noncomputable def rd (id : Id) (lo m : Nat) : M (List AV) := Bool.rec (motive := fun _ => Id → Nat → Nat → M (List AV)) (fun id lo m s k => hasB id (Nat.add lo m) s fun b => lgR s id lo m fun s => getK m b.t lo fun l => k l s) (fun _ _ _ s k => k [] s) (Nat.beq m 0) id lo m
noncomputable def turn (b : Bk) (f : Tr → (Tr → Bool) → Bool) (k : Bk → Bool) : Bool := Bk.rec (motive := fun _ => (Tr → (Tr → Bool) → Bool) → (Bk → Bool) → Bool) (fun z n t f k => f t fun t => k ⟨z,n,t⟩) b f k
noncomputable def wr1 (id : Id) (off : Nat) (v : AV) : M AV := fun s k => hasB id (Nat.succ off) s fun b => turn b (fun t k => setT t off v k) fun b => reH s (lay id (some b)) fun s => lgW s id off 1 (k und)
noncomputable def wrN (id : Id) (lo m : Nat) (l : List AV) : M Unit := fun s k => hasB id (Nat.add lo m) s fun b => turn b (fun t k => putL l t lo k) fun b => reH s (lay id (some b)) fun s => lgW s id lo m (k ())
noncomputable def wr (id : Id) (lo : Nat) (l : List AV) : M Unit := Bool.rec (motive := fun _ => Id → Nat → List AV → M Unit) (fun id lo l => wrN id lo (lnL l) l) (fun _ _ _ s k => k () s) (Nat.beq (lnL l) 0) id lo l
noncomputable def incA (a : Dg) (k : Id → Bool) : Bool := Dg.rec (motive := fun _ => (Id → Bool) → Bool) (fun k => k ⟨.d1,.d0,.d0,.d0,.d0,.d0⟩) (fun k => k ⟨.d2,.d0,.d0,.d0,.d0,.d0⟩) (fun k => k ⟨.d3,.d0,.d0,.d0,.d0,.d0⟩) (fun k => k ⟨.d4,.d0,.d0,.d0,.d0,.d0⟩) (fun k => k ⟨.d5,.d0,.d0,.d0,.d0,.d0⟩) (fun k => k ⟨.d6,.d0,.d0,.d0,.d0,.d0⟩) (fun k => k ⟨.d7,.d0,.d0,.d0,.d0,.d0⟩) (fun _ => false) a  k
noncomputable def incB (a b : Dg) (k : Id → Bool) : Bool := Dg.rec (motive := fun _ => Dg → (Id → Bool) → Bool) (fun a k => k ⟨a,.d1,.d0,.d0,.d0,.d0⟩) (fun a k => k ⟨a,.d2,.d0,.d0,.d0,.d0⟩) (fun a k => k ⟨a,.d3,.d0,.d0,.d0,.d0⟩) (fun a k => k ⟨a,.d4,.d0,.d0,.d0,.d0⟩) (fun a k => k ⟨a,.d5,.d0,.d0,.d0,.d0⟩) (fun a k => k ⟨a,.d6,.d0,.d0,.d0,.d0⟩) (fun a k => k ⟨a,.d7,.d0,.d0,.d0,.d0⟩) (fun a k => incA a k) b a k
noncomputable def incC (a b c : Dg) (k : Id → Bool) : Bool := Dg.rec (motive := fun _ => Dg → Dg → (Id → Bool) → Bool) (fun a b k => k ⟨a,b,.d1,.d0,.d0,.d0⟩) (fun a b k => k ⟨a,b,.d2,.d0,.d0,.d0⟩) (fun a b k => k ⟨a,b,.d3,.d0,.d0,.d0⟩) (fun a b k => k ⟨a,b,.d4,.d0,.d0,.d0⟩) (fun a b k => k ⟨a,b,.d5,.d0,.d0,.d0⟩) (fun a b k => k ⟨a,b,.d6,.d0,.d0,.d0⟩) (fun a b k => k ⟨a,b,.d7,.d0,.d0,.d0⟩) (fun a b k => incB a b k) c a b k
noncomputable def incD (a b c d : Dg) (k : Id → Bool) : Bool := Dg.rec (motive := fun _ => Dg → Dg → Dg → (Id → Bool) → Bool) (fun a b c k => k ⟨a,b,c,.d1,.d0,.d0⟩) (fun a b c k => k ⟨a,b,c,.d2,.d0,.d0⟩) (fun a b c k => k ⟨a,b,c,.d3,.d0,.d0⟩) (fun a b c k => k ⟨a,b,c,.d4,.d0,.d0⟩) (fun a b c k => k ⟨a,b,c,.d5,.d0,.d0⟩) (fun a b c k => k ⟨a,b,c,.d6,.d0,.d0⟩) (fun a b c k => k ⟨a,b,c,.d7,.d0,.d0⟩) (fun a b c k => incC a b c k) d a b c k
noncomputable def incE (a b c d e : Dg) (k : Id → Bool) : Bool := Dg.rec (motive := fun _ => Dg → Dg → Dg → Dg → (Id → Bool) → Bool) (fun a b c d k => k ⟨a,b,c,d,.d1,.d0⟩) (fun a b c d k => k ⟨a,b,c,d,.d2,.d0⟩) (fun a b c d k => k ⟨a,b,c,d,.d3,.d0⟩) (fun a b c d k => k ⟨a,b,c,d,.d4,.d0⟩) (fun a b c d k => k ⟨a,b,c,d,.d5,.d0⟩) (fun a b c d k => k ⟨a,b,c,d,.d6,.d0⟩) (fun a b c d k => k ⟨a,b,c,d,.d7,.d0⟩) (fun a b c d k => incD a b c d k) e a b c d k
noncomputable def incF (a b c d e f : Dg) (k : Id → Bool) : Bool := Dg.rec (motive := fun _ => Dg → Dg → Dg → Dg → Dg → (Id → Bool) → Bool) (fun a b c d e k => k ⟨a,b,c,d,e,.d1⟩) (fun a b c d e k => k ⟨a,b,c,d,e,.d2⟩) (fun a b c d e k => k ⟨a,b,c,d,e,.d3⟩) (fun a b c d e k => k ⟨a,b,c,d,e,.d4⟩) (fun a b c d e k => k ⟨a,b,c,d,e,.d5⟩) (fun a b c d e k => k ⟨a,b,c,d,e,.d6⟩) (fun a b c d e k => k ⟨a,b,c,d,e,.d7⟩) (fun a b c d e k => incE a b c d e k) f a b c d e k
noncomputable def incQ (i : Id) (k : Id → Bool) : Bool := Id.rec (motive := fun _ => (Id → Bool) → Bool) (fun a b c d e f k => incF a b c d e f k) i k
noncomputable def noM (z : Zf) (k : Bool) : Bool := Zf.rec (motive := fun _ => Bool → Bool) (fun _ _ _ m k => Option.rec (motive := fun _ => Bool → Bool) (fun k => k) (fun _ _ => false) m k) z k
noncomputable def newT (z : Zf) (n : Nat) (t : Tr) : M Id := fun s k => Bool.rec (motive := fun _ => Zf → Nat → Tr → St → (Id → St → Bool) → Bool) (fun _ _ _ _ _ => false)
  (fun z n t s k => incQ s.n fun i => reN s (lay s.n (some ⟨z,n,t⟩)) i fun s' => lgW s' s.n 0 (Nat.succ n) (k s.n)) (Nat.ble n (capT t)) z n t s k
noncomputable def new (z : Zf) (l : List AV) : M Id := fun s k => toT l fun t => newT z (lnL l) t s k
noncomputable def over2 (i id : Id) (lo m : Nat) (l : List AV) (b : Bk) (s : St) (k : Id → St → Bool) (t : Tr) : Bool := Bool.rec (motive := fun _ => Id → Id → Nat → Nat → List AV → Bk → St → (Id → St → Bool) → Tr → Bool) (fun _ _ _ _ _ _ _ _ _ => false)
  (fun i id lo m l b s k t => reN s (fun h k => lay id none h fun h => lay s.n (some ⟨b.z.over lo,Nat.add m (lnL l),t⟩) h k) i fun s' => lgR s' id 0 (Nat.succ b.n) fun s' => lgW s' id 0 (Nat.succ b.n) fun s' => lgW s' s.n 0 (Nat.succ (Nat.add m (lnL l))) (k s.n)) (Nat.ble (Nat.add m (lnL l)) (capT t)) i id lo m l b s k t
noncomputable def over (id : Id) (lo m : Nat) (l : List AV) : M Id := fun s k => hasB id (Nat.add lo m) s fun b => noM b.z (incQ s.n fun i => Bool.rec (motive := fun _ => Id → Id → Nat → Nat → List AV → Bk → St → (Id → St → Bool) → Bool)
    (fun i id lo m l b s k => getK m b.t lo fun g => toT (apL g l) fun t => over2 i id lo m l b s k t)
    (fun i id lo m l b s k => putL l (fitT 6 b.t (Nat.add m (lnL l))) m fun t => over2 i id lo m l b s k t) (Nat.beq lo 0) i id lo m l b s k)
noncomputable def shared (id : Id) : M Zf := fun s k => hasB id 0 s fun b => noM b.z (lgR s id b.n 1 (k b.z))
noncomputable def ends (id : Id) : M (Zf × Nat) := fun s k => hasB id 0 s fun b => noM b.z (lgR s id b.n 1 (k (b.z,b.n)))
noncomputable def foL (l : List AV) (k : List AV → Bool) : Bool := List.rec (motive := fun _ => (List AV → Bool) → Bool) (fun k => k []) (fun v _ ih k => fo1 v fun v => ih fun l => k (v :: l)) l k
noncomputable def fo2 (v : AV) (k : AV → Bool) : Bool := AV.rec (motive_1 := fun _ => (AV → Bool) → Bool) (motive_2 := fun _ => Unit) (fun x k => k (.b x)) (fun k0 x k => k (.i k0 x)) (fun x k => k (.s x)) (fun k => k (.p0)) (fun id off k => k (.p id off)) (fun k => k (.s0)) (fun id off len cap k => k (.sl id off len cap)) (fun id off len k0 w0 k => k (.so id off len k0 w0)) (fun k => k (.f0)) (fun fn first cap _ _ k => k (.f fn first cap)) (fun k => k (.i0)) (fun k => k (.m0)) (fun id k => k (.m id)) (fun xs _ k => foL xs fun xs => k (.ag xs)) (fun xs _ k => k (.tu xs)) () (fun _ _ _ _ => ()) v k
noncomputable def isM (z : Zf) (k : List AV → Bool) : Bool := Zf.rec (motive := fun _ => (List AV → Bool) → Bool) (fun _ _ _ m k => Option.rec (motive := fun _ => (List AV → Bool) → Bool) (fun _ => false) (fun l k => k l) m k) z k
noncomputable def rdM (id : Id) : M (List AV) := fun s k => hasB id 0 s fun b => isM b.z fun l => lgR s id b.n 1 (k l)
noncomputable def mapB (b : Bk) (l : List AV) (k : Bk → Bool) : Bool := Bk.rec (motive := fun _ => List AV → (Bk → Bool) → Bool) (fun z n t l k => Zf.rec (motive := fun _ => Nat → Tr → List AV → (Bk → Bool) → Bool) (fun zs zb zt _ n t l k => k ⟨⟨zs,zb,zt,some l⟩,n,t⟩) z n t l k) b l k
noncomputable def wrM (id : Id) (l : List AV) : M Unit := fun s k => hasB id 0 s fun b => isM b.z fun _ => foL l fun l => mapB b l fun b => reH s (lay id (some b)) fun s => lgR s id b.n 1 fun s => lgW s id b.n 1 (k ())

noncomputable def pickF (c a b : AV) (s : St) (k : AV → St → Bool) : Bool := AV.rec (motive_1 := fun _ => AV → AV → St → (AV → St → Bool) → Bool) (motive_2 := fun _ => Unit) (fun t a b s k => Bool.rec (motive := fun _ => AV → AV → St → (AV → St → Bool) → Bool) (fun _ b s k => k b s) (fun a _ s k => k a s) t a b s k) (fun _ _ _ _ _ _ => false) (fun _ _ _ _ _ => false) (fun _ _ _ _ => false) (fun _ _ _ _ _ _ => false) (fun _ _ _ _ => false) (fun _ _ _ _ _ _ _ _ => false) (fun _ _ _ _ _ _ _ _ _ => false) (fun _ _ _ _ => false) (fun _ _ _ _ _ _ _ _ _ => false) (fun _ _ _ _ => false) (fun _ _ _ _ => false) (fun _ _ _ _ _ => false) (fun _ _ _ _ _ _ => false) (fun _ _ _ _ _ _ => false) () (fun _ _ _ _ => ()) c a b s k
noncomputable def ldF (x : AV) (s : St) (k : AV → St → Bool) : Bool := AV.rec (motive_1 := fun _ => St → (AV → St → Bool) → Bool) (motive_2 := fun _ => Unit) (fun _ _ _ => false) (fun _ _ _ _ => false) (fun _ _ _ => false) (fun _ _ => false) (fun id off s k => rd1 id off s k) (fun _ _ => false) (fun _ _ _ _ _ _ => false) (fun _ _ _ _ _ _ _ => false) (fun _ _ => false) (fun _ _ _ _ _ _ _ => false) (fun _ _ => false) (fun _ _ => false) (fun _ _ _ => false) (fun _ _ _ _ => false) (fun _ _ _ _ => false) () (fun _ _ _ _ => ()) x s k
noncomputable def ldnF (m : Nat) (x : AV) (s : St) (k : AV → St → Bool) : Bool := AV.rec (motive_1 := fun _ => Nat → St → (AV → St → Bool) → Bool) (motive_2 := fun _ => Unit) (fun _ _ _ _ => false) (fun _ _ _ _ _ => false) (fun _ _ _ _ => false) (fun _ _ _ => false) (fun id off m s k => rd id off m s fun l s => k (.ag l) s) (fun _ _ _ => false) (fun _ _ _ _ _ _ _ => false) (fun _ _ _ _ _ _ _ _ => false) (fun _ _ _ => false) (fun _ _ _ _ _ _ _ _ => false) (fun _ _ _ => false) (fun _ _ _ => false) (fun _ _ _ _ => false) (fun _ _ _ _ _ => false) (fun _ _ _ _ _ => false) () (fun _ _ _ _ => ()) x m s k
noncomputable def cellsK (m : Nat) (v : AV) (k : List AV → Bool) : Bool := AV.rec (motive_1 := fun _ => Nat → (List AV → Bool) → Bool) (motive_2 := fun _ => Unit) (fun x m k => Bool.rec (motive := fun _ => AV → (List AV → Bool) → Bool) (fun _ _ => false) (fun v k => k [v]) (Nat.beq 1 m) (.b x) k) (fun k0 x m k => Bool.rec (motive := fun _ => AV → (List AV → Bool) → Bool) (fun _ _ => false) (fun v k => k [v]) (Nat.beq 1 m) (.i k0 x) k) (fun x m k => Bool.rec (motive := fun _ => AV → (List AV → Bool) → Bool) (fun _ _ => false) (fun v k => k [v]) (Nat.beq 1 m) (.s x) k) (fun m k => Bool.rec (motive := fun _ => AV → (List AV → Bool) → Bool) (fun _ _ => false) (fun v k => k [v]) (Nat.beq 1 m) (.p0) k) (fun id off m k => Bool.rec (motive := fun _ => AV → (List AV → Bool) → Bool) (fun _ _ => false) (fun v k => k [v]) (Nat.beq 1 m) (.p id off) k) (fun m k => Bool.rec (motive := fun _ => AV → (List AV → Bool) → Bool) (fun _ _ => false) (fun v k => k [v]) (Nat.beq 1 m) (.s0) k) (fun id off len cap m k => Bool.rec (motive := fun _ => AV → (List AV → Bool) → Bool) (fun _ _ => false) (fun v k => k [v]) (Nat.beq 1 m) (.sl id off len cap) k) (fun id off len k0 w0 m k => Bool.rec (motive := fun _ => AV → (List AV → Bool) → Bool) (fun _ _ => false) (fun v k => k [v]) (Nat.beq 1 m) (.so id off len k0 w0) k) (fun m k => Bool.rec (motive := fun _ => AV → (List AV → Bool) → Bool) (fun _ _ => false) (fun v k => k [v]) (Nat.beq 1 m) (.f0) k) (fun fn first cap _ _ m k => Bool.rec (motive := fun _ => AV → (List AV → Bool) → Bool) (fun _ _ => false) (fun v k => k [v]) (Nat.beq 1 m) (.f fn first cap) k) (fun m k => Bool.rec (motive := fun _ => AV → (List AV → Bool) → Bool) (fun _ _ => false) (fun v k => k [v]) (Nat.beq 1 m) (.i0) k) (fun m k => Bool.rec (motive := fun _ => AV → (List AV → Bool) → Bool) (fun _ _ => false) (fun v k => k [v]) (Nat.beq 1 m) (.m0) k) (fun id m k => Bool.rec (motive := fun _ => AV → (List AV → Bool) → Bool) (fun _ _ => false) (fun v k => k [v]) (Nat.beq 1 m) (.m id) k) (fun xs _ m k => Bool.rec (motive := fun _ => List AV → (List AV → Bool) → Bool) (fun _ _ => false) (fun xs k => k xs) (Nat.beq (lnL xs) m) xs k) (fun _ _ _ _ => false) () (fun _ _ _ _ => ()) v m k
noncomputable def st1 (id0 : Id) (off0 : Nat) (v : AV) (s : St) (k : AV → St → Bool) : Bool := AV.rec (motive_1 := fun _ => Id → Nat → St → (AV → St → Bool) → Bool) (motive_2 := fun _ => Unit) (fun x id0 off0 s k => wr1 id0 off0 (.b x) s k) (fun k0 x id0 off0 s k => wr1 id0 off0 (.i k0 x) s k) (fun x id0 off0 s k => wr1 id0 off0 (.s x) s k) (fun id0 off0 s k => wr1 id0 off0 (.p0) s k) (fun id off id0 off0 s k => wr1 id0 off0 (.p id off) s k) (fun id0 off0 s k => wr1 id0 off0 (.s0) s k) (fun id off len cap id0 off0 s k => wr1 id0 off0 (.sl id off len cap) s k) (fun id off len k0 w0 id0 off0 s k => wr1 id0 off0 (.so id off len k0 w0) s k) (fun id0 off0 s k => wr1 id0 off0 (.f0) s k) (fun fn first cap _ _ id0 off0 s k => wr1 id0 off0 (.f fn first cap) s k) (fun id0 off0 s k => wr1 id0 off0 (.i0) s k) (fun id0 off0 s k => wr1 id0 off0 (.m0) s k) (fun id id0 off0 s k => wr1 id0 off0 (.m id) s k) (fun xs _ id0 off0 s k => cellsK 1 (.ag xs) fun l => wr id0 off0 l s fun _ s => k und s) (fun _ _ _ _ _ _ => false) () (fun _ _ _ _ => ()) v id0 off0 s k
noncomputable def st1F (a v : AV) (s : St) (k : AV → St → Bool) : Bool := AV.rec (motive_1 := fun _ => AV → St → (AV → St → Bool) → Bool) (motive_2 := fun _ => Unit) (fun _ _ _ _ => false) (fun _ _ _ _ _ => false) (fun _ _ _ _ => false) (fun _ _ _ => false) (fun id off v s k => st1 id off v s k) (fun _ _ _ => false) (fun _ _ _ _ _ _ _ => false) (fun _ _ _ _ _ _ _ _ => false) (fun _ _ _ => false) (fun _ _ _ _ _ _ _ _ => false) (fun _ _ _ => false) (fun _ _ _ => false) (fun _ _ _ _ => false) (fun _ _ _ _ _ => false) (fun _ _ _ _ _ => false) () (fun _ _ _ _ => ()) a v s k
noncomputable def stnF (m : Nat) (a v : AV) (s : St) (k : AV → St → Bool) : Bool := AV.rec (motive_1 := fun _ => Nat → AV → St → (AV → St → Bool) → Bool) (motive_2 := fun _ => Unit) (fun _ _ _ _ _ => false) (fun _ _ _ _ _ _ => false) (fun _ _ _ _ _ => false) (fun _ _ _ _ => false) (fun id off m v s k => cellsK m v fun l => wr id off l s fun _ s => k und s) (fun _ _ _ _ => false) (fun _ _ _ _ _ _ _ _ => false) (fun _ _ _ _ _ _ _ _ _ => false) (fun _ _ _ _ => false) (fun _ _ _ _ _ _ _ _ _ => false) (fun _ _ _ _ => false) (fun _ _ _ _ => false) (fun _ _ _ _ _ => false) (fun _ _ _ _ _ _ => false) (fun _ _ _ _ _ _ => false) () (fun _ _ _ _ => ()) a m v s k
noncomputable def fadF (o : Nat) (x : AV) (s : St) (k : AV → St → Bool) : Bool := AV.rec (motive_1 := fun _ => Nat → St → (AV → St → Bool) → Bool) (motive_2 := fun _ => Unit) (fun _ _ _ _ => false) (fun _ _ _ _ _ => false) (fun _ _ _ _ => false) (fun _ _ _ => false) (fun id off o s k => k (.p id (Nat.add off o)) s) (fun _ _ _ => false) (fun _ _ _ _ _ _ _ => false) (fun _ _ _ _ _ _ _ _ => false) (fun _ _ _ => false) (fun _ _ _ _ _ _ _ _ => false) (fun _ _ _ => false) (fun _ _ _ => false) (fun _ _ _ _ => false) (fun _ _ _ _ _ => false) (fun _ _ _ _ _ => false) () (fun _ _ _ _ => ()) x o s k
noncomputable def nilF (x : AV) (s : St) (k : AV → St → Bool) : Bool := AV.rec (motive_1 := fun _ => AV → St → (AV → St → Bool) → Bool) (motive_2 := fun _ => Unit) (fun _ _ _ _ => false) (fun _ _ _ _ _ => false) (fun _ _ _ _ => false) (fun _ _ _ => false) (fun _ _ x s k => k x s) (fun _ _ _ => false) (fun _ _ _ _ _ _ _ => false) (fun _ _ _ _ _ _ _ _ => false) (fun _ _ _ => false) (fun _ _ _ _ _ x s k => k x s) (fun _ _ _ => false) (fun _ _ _ => false) (fun _ _ _ _ => false) (fun _ _ _ _ _ => false) (fun _ _ _ _ _ => false) () (fun _ _ _ _ => ()) x x s k
noncomputable def ixs3 (w a len : Nat) (id : Id) (off : Nat) (s : St) (k : AV → St → Bool) : Bool := Bool.rec (motive := fun _ => Nat → Nat → Id → Nat → St → (AV → St → Bool) → Bool) (fun _ _ _ _ _ _ => false) (fun w a id off s k => k (.p id (Nat.add off (Nat.mul a w))) s) (Nat.blt a len) w a id off s k
noncomputable def ixs2 (w a : Nat) (x : AV) (s : St) (k : AV → St → Bool) : Bool := AV.rec (motive_1 := fun _ => Nat → Nat → St → (AV → St → Bool) → Bool) (motive_2 := fun _ => Unit) (fun _ _ _ _ _ => false) (fun _ _ _ _ _ _ => false) (fun _ _ _ _ _ => false) (fun _ _ _ _ => false) (fun _ _ _ _ _ _ => false) (fun _ _ _ _ => false) (fun id off len _ w a s k => ixs3 w a len id off s k) (fun id off len _ _ w a s k => ixs3 w a len id off s k) (fun _ _ _ _ => false) (fun _ _ _ _ _ _ _ _ _ => false) (fun _ _ _ _ => false) (fun _ _ _ _ => false) (fun _ _ _ _ _ => false) (fun _ _ _ _ _ _ => false) (fun _ _ _ _ _ _ => false) () (fun _ _ _ _ => ()) x w a s k
noncomputable def ixa2 (n w a : Nat) (x : AV) (s : St) (k : AV → St → Bool) : Bool := AV.rec (motive_1 := fun _ => Nat → Nat → Nat → St → (AV → St → Bool) → Bool) (motive_2 := fun _ => Unit) (fun _ _ _ _ _ _ => false) (fun _ _ _ _ _ _ _ => false) (fun _ _ _ _ _ _ => false) (fun _ _ _ _ _ => false) (fun id off n w a s k => ixs3 w a n id off s k) (fun _ _ _ _ _ => false) (fun _ _ _ _ _ _ _ _ _ => false) (fun _ _ _ _ _ _ _ _ _ _ => false) (fun _ _ _ _ _ => false) (fun _ _ _ _ _ _ _ _ _ _ => false) (fun _ _ _ _ _ => false) (fun _ _ _ _ _ => false) (fun _ _ _ _ _ _ => false) (fun _ _ _ _ _ _ _ => false) (fun _ _ _ _ _ _ _ => false) () (fun _ _ _ _ => ()) x n w a s k
noncomputable def ixsF (w : Nat) (x i : AV) (s : St) (k : AV → St → Bool) : Bool := AV.rec (motive_1 := fun _ => Nat → AV → St → (AV → St → Bool) → Bool) (motive_2 := fun _ => Unit) (fun _ _ _ _ _ => false) (fun _ a w x s k => Int.rec (motive := fun _ => Nat → AV → St → (AV → St → Bool) → Bool) (fun a w x s k => ixs2 w a x s k) (fun _ _ _ _ _ => false) a w x s k) (fun _ _ _ _ _ => false) (fun _ _ _ _ => false) (fun _ _ _ _ _ _ => false) (fun _ _ _ _ => false) (fun _ _ _ _ _ _ _ _ => false) (fun _ _ _ _ _ _ _ _ _ => false) (fun _ _ _ _ => false) (fun _ _ _ _ _ _ _ _ _ => false) (fun _ _ _ _ => false) (fun _ _ _ _ => false) (fun _ _ _ _ _ => false) (fun _ _ _ _ _ _ => false) (fun _ _ _ _ _ _ => false) () (fun _ _ _ _ => ()) i w x s k
noncomputable def ixaF (n w : Nat) (x i : AV) (s : St) (k : AV → St → Bool) : Bool := AV.rec (motive_1 := fun _ => Nat → Nat → AV → St → (AV → St → Bool) → Bool) (motive_2 := fun _ => Unit) (fun _ _ _ _ _ _ => false) (fun _ a n w x s k => Int.rec (motive := fun _ => Nat → Nat → AV → St → (AV → St → Bool) → Bool) (fun a n w x s k => ixa2 n w a x s k) (fun _ _ _ _ _ _ => false) a n w x s k) (fun _ _ _ _ _ _ => false) (fun _ _ _ _ _ => false) (fun _ _ _ _ _ _ _ => false) (fun _ _ _ _ _ => false) (fun _ _ _ _ _ _ _ _ _ => false) (fun _ _ _ _ _ _ _ _ _ _ => false) (fun _ _ _ _ _ => false) (fun _ _ _ _ _ _ _ _ _ _ => false) (fun _ _ _ _ _ => false) (fun _ _ _ _ _ => false) (fun _ _ _ _ _ _ => false) (fun _ _ _ _ _ _ _ => false) (fun _ _ _ _ _ _ _ => false) () (fun _ _ _ _ => ()) i n w x s k
noncomputable def sbN (a b : Nat) : Int := Bool.rec (motive := fun _ => Nat → Nat → Int) (fun a b => .negSucc (Nat.sub (Nat.sub b a) 1)) (fun a b => .ofNat (Nat.sub a b)) (Nat.ble b a) a b
noncomputable def addI (x y : Int) : Int := Int.rec (motive := fun _ => Int → Int) (fun a y => Int.rec (motive := fun _ => Nat → Int) (fun b a => .ofNat (Nat.add a b)) (fun b a => sbN a (Nat.succ b)) y a) (fun a y => Int.rec (motive := fun _ => Nat → Int) (fun b a => sbN b (Nat.succ a)) (fun b a => .negSucc (Nat.succ (Nat.add a b))) y a) x y
noncomputable def subI (x y : Int) : Int := Int.rec (motive := fun _ => Int → Int) (fun a y => Int.rec (motive := fun _ => Nat → Int) (fun b a => sbN a b) (fun b a => .ofNat (Nat.add a (Nat.succ b))) y a) (fun a y => Int.rec (motive := fun _ => Nat → Int) (fun b a => .negSucc (Nat.add a b)) (fun b a => sbN b a) y a) x y
noncomputable def leI (x y : Int) : Bool := Int.rec (motive := fun _ => Int → Bool) (fun a y => Int.rec (motive := fun _ => Nat → Bool) (fun b a => Nat.ble a b) (fun b a => false) y a) (fun a y => Int.rec (motive := fun _ => Nat → Bool) (fun b a => true) (fun b a => Nat.ble b a) y a) x y
noncomputable def eqI (x y : Int) : Bool := Int.rec (motive := fun _ => Int → Bool) (fun a y => Int.rec (motive := fun _ => Nat → Bool) (fun b a => Nat.beq a b) (fun b a => false) y a) (fun a y => Int.rec (motive := fun _ => Nat → Bool) (fun b a => false) (fun b a => Nat.beq a b) y a) x y
noncomputable def kxQ (k : IntKind) : Nat := IntKind.rec (motive := fun _ => Nat) 0 1 2 3 4 5 6 7 k
noncomputable def wrK (kk : IntKind) (x : Int) (s : St) (k : AV → St → Bool) : Bool := IntKind.rec (motive := fun _ => IntKind → Int → St → (AV → St → Bool) → Bool) (fun kk x s k => Int.rec (motive := fun _ => IntKind → St → (AV → St → Bool) → Bool) (fun a kk s k => Bool.rec (motive := fun _ => Nat → IntKind → St → (AV → St → Bool) → Bool) (fun a kk s k => k (.i kk (wrapS 256 (Nat.mod a 256))) s) (fun a kk s k => k (.i kk (.ofNat a)) s) (Nat.blt a 128) a kk s k) (fun a kk s k => Bool.rec (motive := fun _ => Nat → IntKind → St → (AV → St → Bool) → Bool) (fun a kk s k => k (.i kk (wrapS 256 (Nat.sub 255 (Nat.mod a 256)))) s) (fun a kk s k => k (.i kk (.negSucc a)) s) (Nat.blt a 128) a kk s k) x kk s k) (fun kk x s k => Int.rec (motive := fun _ => IntKind → St → (AV → St → Bool) → Bool) (fun a kk s k => Bool.rec (motive := fun _ => Nat → IntKind → St → (AV → St → Bool) → Bool) (fun a kk s k => k (.i kk (wrapS 65536 (Nat.mod a 65536))) s) (fun a kk s k => k (.i kk (.ofNat a)) s) (Nat.blt a 32768) a kk s k) (fun a kk s k => Bool.rec (motive := fun _ => Nat → IntKind → St → (AV → St → Bool) → Bool) (fun a kk s k => k (.i kk (wrapS 65536 (Nat.sub 65535 (Nat.mod a 65536)))) s) (fun a kk s k => k (.i kk (.negSucc a)) s) (Nat.blt a 32768) a kk s k) x kk s k) (fun kk x s k => Int.rec (motive := fun _ => IntKind → St → (AV → St → Bool) → Bool) (fun a kk s k => Bool.rec (motive := fun _ => Nat → IntKind → St → (AV → St → Bool) → Bool) (fun a kk s k => k (.i kk (wrapS 4294967296 (Nat.mod a 4294967296))) s) (fun a kk s k => k (.i kk (.ofNat a)) s) (Nat.blt a 2147483648) a kk s k) (fun a kk s k => Bool.rec (motive := fun _ => Nat → IntKind → St → (AV → St → Bool) → Bool) (fun a kk s k => k (.i kk (wrapS 4294967296 (Nat.sub 4294967295 (Nat.mod a 4294967296)))) s) (fun a kk s k => k (.i kk (.negSucc a)) s) (Nat.blt a 2147483648) a kk s k) x kk s k) (fun kk x s k => Int.rec (motive := fun _ => IntKind → St → (AV → St → Bool) → Bool) (fun a kk s k => Bool.rec (motive := fun _ => Nat → IntKind → St → (AV → St → Bool) → Bool) (fun a kk s k => k (.i kk (wrapS 18446744073709551616 (Nat.mod a 18446744073709551616))) s) (fun a kk s k => k (.i kk (.ofNat a)) s) (Nat.blt a 9223372036854775808) a kk s k) (fun a kk s k => Bool.rec (motive := fun _ => Nat → IntKind → St → (AV → St → Bool) → Bool) (fun a kk s k => k (.i kk (wrapS 18446744073709551616 (Nat.sub 18446744073709551615 (Nat.mod a 18446744073709551616)))) s) (fun a kk s k => k (.i kk (.negSucc a)) s) (Nat.blt a 9223372036854775808) a kk s k) x kk s k) (fun kk x s k => Int.rec (motive := fun _ => IntKind → St → (AV → St → Bool) → Bool) (fun a kk s k => Bool.rec (motive := fun _ => Nat → IntKind → St → (AV → St → Bool) → Bool) (fun a kk s k => k (.i kk (.ofNat (Nat.mod a 256))) s) (fun a kk s k => k (.i kk (.ofNat a)) s) (Nat.blt a 256) a kk s k) (fun a kk s k => k (.i kk (.ofNat (Nat.sub 255 (Nat.mod a 256)))) s) x kk s k) (fun kk x s k => Int.rec (motive := fun _ => IntKind → St → (AV → St → Bool) → Bool) (fun a kk s k => Bool.rec (motive := fun _ => Nat → IntKind → St → (AV → St → Bool) → Bool) (fun a kk s k => k (.i kk (.ofNat (Nat.mod a 65536))) s) (fun a kk s k => k (.i kk (.ofNat a)) s) (Nat.blt a 65536) a kk s k) (fun a kk s k => k (.i kk (.ofNat (Nat.sub 65535 (Nat.mod a 65536)))) s) x kk s k) (fun kk x s k => Int.rec (motive := fun _ => IntKind → St → (AV → St → Bool) → Bool) (fun a kk s k => Bool.rec (motive := fun _ => Nat → IntKind → St → (AV → St → Bool) → Bool) (fun a kk s k => k (.i kk (.ofNat (Nat.mod a 4294967296))) s) (fun a kk s k => k (.i kk (.ofNat a)) s) (Nat.blt a 4294967296) a kk s k) (fun a kk s k => k (.i kk (.ofNat (Nat.sub 4294967295 (Nat.mod a 4294967296)))) s) x kk s k) (fun kk x s k => Int.rec (motive := fun _ => IntKind → St → (AV → St → Bool) → Bool) (fun a kk s k => Bool.rec (motive := fun _ => Nat → IntKind → St → (AV → St → Bool) → Bool) (fun a kk s k => k (.i kk (.ofNat (Nat.mod a 18446744073709551616))) s) (fun a kk s k => k (.i kk (.ofNat a)) s) (Nat.blt a 18446744073709551616) a kk s k) (fun a kk s k => k (.i kk (.ofNat (Nat.sub 18446744073709551615 (Nat.mod a 18446744073709551616)))) s) x kk s k) kk kk x s k
noncomputable def boK (b : Bool) (s : St) (k : AV → St → Bool) : Bool := Bool.rec (motive := fun _ => St → (AV → St → Bool) → Bool) (fun s k => k (.b false) s) (fun s k => k (.b true) s) b s k
noncomputable def boN (b : Bool) (s : St) (k : AV → St → Bool) : Bool := Bool.rec (motive := fun _ => St → (AV → St → Bool) → Bool) (fun s k => k (.b true) s) (fun s k => k (.b false) s) b s k
noncomputable def strF (o : BinOp) (x : List Nat) (y : AV) : M AV := match y with
  | .s y => match o with
    | .eql => M.pure (.b (eqL x y))
    | .neq => M.pure (.b (!eqL x y))
    | .add => M.ifB (Nat.ble (x.length + y.length) lim) (M.pure (.s (x ++ y)))
    | _ => M.no
  | _ => M.no
noncomputable def intF (o : BinOp) (k : IntKind) (a : Int) (k' : IntKind) (b : Int) : M AV := match o with
  | .shl => M.ofO (shl k a b) M.pure
  | .shr => M.ofO (shr k a b) M.pure
  | o => M.ifB (keq k k') (M.ofO (ari o k a b) M.pure)
noncomputable def binF (o : BinOp) (x y : AV) : M AV := match x with
  | .i k a => match y with
    | .i k' b => intF o k a k' b
    | _ => M.no
  | .s x => strF o x y
  | _ => M.no
noncomputable def addF (x y : AV) (s : St) (k : AV → St → Bool) : Bool := AV.rec (motive_1 := fun _ => AV → St → (AV → St → Bool) → Bool) (motive_2 := fun _ => Unit) (fun _ _ _ _ => false) (fun kk x y s k => AV.rec (motive_1 := fun _ => IntKind → Int → St → (AV → St → Bool) → Bool) (motive_2 := fun _ => Unit) (fun _ _ _ _ _ => false) (fun ky y kk x s k => Bool.rec (motive := fun _ => IntKind → Int → Int → St → (AV → St → Bool) → Bool) (fun _ _ _ _ _ => false) (fun kk x y s k => wrK kk (addI x y) s k) (Nat.beq (kxQ kk) (kxQ ky)) kk x y s k) (fun _ _ _ _ _ => false) (fun _ _ _ _ => false) (fun _ _ _ _ _ _ => false) (fun _ _ _ _ => false) (fun _ _ _ _ _ _ _ _ => false) (fun _ _ _ _ _ _ _ _ _ => false) (fun _ _ _ _ => false) (fun _ _ _ _ _ _ _ _ _ => false) (fun _ _ _ _ => false) (fun _ _ _ _ => false) (fun _ _ _ _ _ => false) (fun _ _ _ _ _ _ => false) (fun _ _ _ _ _ _ => false) () (fun _ _ _ _ => ()) y kk x s k) (fun x y s k => strF .add x y s k) (fun _ _ _ => false) (fun _ _ _ _ _ => false) (fun _ _ _ => false) (fun _ _ _ _ _ _ _ => false) (fun _ _ _ _ _ _ _ _ => false) (fun _ _ _ => false) (fun _ _ _ _ _ _ _ _ => false) (fun _ _ _ => false) (fun _ _ _ => false) (fun _ _ _ _ => false) (fun _ _ _ _ _ => false) (fun _ _ _ _ _ => false) () (fun _ _ _ _ => ()) x y s k
noncomputable def subF (x y : AV) (s : St) (k : AV → St → Bool) : Bool := AV.rec (motive_1 := fun _ => AV → St → (AV → St → Bool) → Bool) (motive_2 := fun _ => Unit) (fun _ _ _ _ => false) (fun kk x y s k => AV.rec (motive_1 := fun _ => IntKind → Int → St → (AV → St → Bool) → Bool) (motive_2 := fun _ => Unit) (fun _ _ _ _ _ => false) (fun ky y kk x s k => Bool.rec (motive := fun _ => IntKind → Int → Int → St → (AV → St → Bool) → Bool) (fun _ _ _ _ _ => false) (fun kk x y s k => wrK kk (subI x y) s k) (Nat.beq (kxQ kk) (kxQ ky)) kk x y s k) (fun _ _ _ _ _ => false) (fun _ _ _ _ => false) (fun _ _ _ _ _ _ => false) (fun _ _ _ _ => false) (fun _ _ _ _ _ _ _ _ => false) (fun _ _ _ _ _ _ _ _ _ => false) (fun _ _ _ _ => false) (fun _ _ _ _ _ _ _ _ _ => false) (fun _ _ _ _ => false) (fun _ _ _ _ => false) (fun _ _ _ _ _ => false) (fun _ _ _ _ _ _ => false) (fun _ _ _ _ _ _ => false) () (fun _ _ _ _ => ()) y kk x s k) (fun x y s k => strF .sub x y s k) (fun _ _ _ => false) (fun _ _ _ _ _ => false) (fun _ _ _ => false) (fun _ _ _ _ _ _ _ => false) (fun _ _ _ _ _ _ _ _ => false) (fun _ _ _ => false) (fun _ _ _ _ _ _ _ _ => false) (fun _ _ _ => false) (fun _ _ _ => false) (fun _ _ _ _ => false) (fun _ _ _ _ _ => false) (fun _ _ _ _ _ => false) () (fun _ _ _ _ => ()) x y s k
noncomputable def eqlF (x y : AV) (s : St) (k : AV → St → Bool) : Bool := AV.rec (motive_1 := fun _ => AV → St → (AV → St → Bool) → Bool) (motive_2 := fun _ => Unit) (fun _ _ _ _ => false) (fun kk x y s k => AV.rec (motive_1 := fun _ => IntKind → Int → St → (AV → St → Bool) → Bool) (motive_2 := fun _ => Unit) (fun _ _ _ _ _ => false) (fun ky y kk x s k => Bool.rec (motive := fun _ => IntKind → Int → Int → St → (AV → St → Bool) → Bool) (fun _ _ _ _ _ => false) (fun kk x y s k => boK (eqI x y) s k) (Nat.beq (kxQ kk) (kxQ ky)) kk x y s k) (fun _ _ _ _ _ => false) (fun _ _ _ _ => false) (fun _ _ _ _ _ _ => false) (fun _ _ _ _ => false) (fun _ _ _ _ _ _ _ _ => false) (fun _ _ _ _ _ _ _ _ _ => false) (fun _ _ _ _ => false) (fun _ _ _ _ _ _ _ _ _ => false) (fun _ _ _ _ => false) (fun _ _ _ _ => false) (fun _ _ _ _ _ => false) (fun _ _ _ _ _ _ => false) (fun _ _ _ _ _ _ => false) () (fun _ _ _ _ => ()) y kk x s k) (fun x y s k => strF .eql x y s k) (fun _ _ _ => false) (fun _ _ _ _ _ => false) (fun _ _ _ => false) (fun _ _ _ _ _ _ _ => false) (fun _ _ _ _ _ _ _ _ => false) (fun _ _ _ => false) (fun _ _ _ _ _ _ _ _ => false) (fun _ _ _ => false) (fun _ _ _ => false) (fun _ _ _ _ => false) (fun _ _ _ _ _ => false) (fun _ _ _ _ _ => false) () (fun _ _ _ _ => ()) x y s k
noncomputable def neqF (x y : AV) (s : St) (k : AV → St → Bool) : Bool := AV.rec (motive_1 := fun _ => AV → St → (AV → St → Bool) → Bool) (motive_2 := fun _ => Unit) (fun _ _ _ _ => false) (fun kk x y s k => AV.rec (motive_1 := fun _ => IntKind → Int → St → (AV → St → Bool) → Bool) (motive_2 := fun _ => Unit) (fun _ _ _ _ _ => false) (fun ky y kk x s k => Bool.rec (motive := fun _ => IntKind → Int → Int → St → (AV → St → Bool) → Bool) (fun _ _ _ _ _ => false) (fun kk x y s k => boN (eqI x y) s k) (Nat.beq (kxQ kk) (kxQ ky)) kk x y s k) (fun _ _ _ _ _ => false) (fun _ _ _ _ => false) (fun _ _ _ _ _ _ => false) (fun _ _ _ _ => false) (fun _ _ _ _ _ _ _ _ => false) (fun _ _ _ _ _ _ _ _ _ => false) (fun _ _ _ _ => false) (fun _ _ _ _ _ _ _ _ _ => false) (fun _ _ _ _ => false) (fun _ _ _ _ => false) (fun _ _ _ _ _ => false) (fun _ _ _ _ _ _ => false) (fun _ _ _ _ _ _ => false) () (fun _ _ _ _ => ()) y kk x s k) (fun x y s k => strF .neq x y s k) (fun _ _ _ => false) (fun _ _ _ _ _ => false) (fun _ _ _ => false) (fun _ _ _ _ _ _ _ => false) (fun _ _ _ _ _ _ _ _ => false) (fun _ _ _ => false) (fun _ _ _ _ _ _ _ _ => false) (fun _ _ _ => false) (fun _ _ _ => false) (fun _ _ _ _ => false) (fun _ _ _ _ _ => false) (fun _ _ _ _ _ => false) () (fun _ _ _ _ => ()) x y s k
noncomputable def lssF (x y : AV) (s : St) (k : AV → St → Bool) : Bool := AV.rec (motive_1 := fun _ => AV → St → (AV → St → Bool) → Bool) (motive_2 := fun _ => Unit) (fun _ _ _ _ => false) (fun kk x y s k => AV.rec (motive_1 := fun _ => IntKind → Int → St → (AV → St → Bool) → Bool) (motive_2 := fun _ => Unit) (fun _ _ _ _ _ => false) (fun ky y kk x s k => Bool.rec (motive := fun _ => IntKind → Int → Int → St → (AV → St → Bool) → Bool) (fun _ _ _ _ _ => false) (fun kk x y s k => boN (leI y x) s k) (Nat.beq (kxQ kk) (kxQ ky)) kk x y s k) (fun _ _ _ _ _ => false) (fun _ _ _ _ => false) (fun _ _ _ _ _ _ => false) (fun _ _ _ _ => false) (fun _ _ _ _ _ _ _ _ => false) (fun _ _ _ _ _ _ _ _ _ => false) (fun _ _ _ _ => false) (fun _ _ _ _ _ _ _ _ _ => false) (fun _ _ _ _ => false) (fun _ _ _ _ => false) (fun _ _ _ _ _ => false) (fun _ _ _ _ _ _ => false) (fun _ _ _ _ _ _ => false) () (fun _ _ _ _ => ()) y kk x s k) (fun x y s k => strF .lss x y s k) (fun _ _ _ => false) (fun _ _ _ _ _ => false) (fun _ _ _ => false) (fun _ _ _ _ _ _ _ => false) (fun _ _ _ _ _ _ _ _ => false) (fun _ _ _ => false) (fun _ _ _ _ _ _ _ _ => false) (fun _ _ _ => false) (fun _ _ _ => false) (fun _ _ _ _ => false) (fun _ _ _ _ _ => false) (fun _ _ _ _ _ => false) () (fun _ _ _ _ => ()) x y s k
noncomputable def leqF (x y : AV) (s : St) (k : AV → St → Bool) : Bool := AV.rec (motive_1 := fun _ => AV → St → (AV → St → Bool) → Bool) (motive_2 := fun _ => Unit) (fun _ _ _ _ => false) (fun kk x y s k => AV.rec (motive_1 := fun _ => IntKind → Int → St → (AV → St → Bool) → Bool) (motive_2 := fun _ => Unit) (fun _ _ _ _ _ => false) (fun ky y kk x s k => Bool.rec (motive := fun _ => IntKind → Int → Int → St → (AV → St → Bool) → Bool) (fun _ _ _ _ _ => false) (fun kk x y s k => boK (leI x y) s k) (Nat.beq (kxQ kk) (kxQ ky)) kk x y s k) (fun _ _ _ _ _ => false) (fun _ _ _ _ => false) (fun _ _ _ _ _ _ => false) (fun _ _ _ _ => false) (fun _ _ _ _ _ _ _ _ => false) (fun _ _ _ _ _ _ _ _ _ => false) (fun _ _ _ _ => false) (fun _ _ _ _ _ _ _ _ _ => false) (fun _ _ _ _ => false) (fun _ _ _ _ => false) (fun _ _ _ _ _ => false) (fun _ _ _ _ _ _ => false) (fun _ _ _ _ _ _ => false) () (fun _ _ _ _ => ()) y kk x s k) (fun x y s k => strF .leq x y s k) (fun _ _ _ => false) (fun _ _ _ _ _ => false) (fun _ _ _ => false) (fun _ _ _ _ _ _ _ => false) (fun _ _ _ _ _ _ _ _ => false) (fun _ _ _ => false) (fun _ _ _ _ _ _ _ _ => false) (fun _ _ _ => false) (fun _ _ _ => false) (fun _ _ _ _ => false) (fun _ _ _ _ _ => false) (fun _ _ _ _ _ => false) () (fun _ _ _ _ => ()) x y s k
noncomputable def gtrF (x y : AV) (s : St) (k : AV → St → Bool) : Bool := AV.rec (motive_1 := fun _ => AV → St → (AV → St → Bool) → Bool) (motive_2 := fun _ => Unit) (fun _ _ _ _ => false) (fun kk x y s k => AV.rec (motive_1 := fun _ => IntKind → Int → St → (AV → St → Bool) → Bool) (motive_2 := fun _ => Unit) (fun _ _ _ _ _ => false) (fun ky y kk x s k => Bool.rec (motive := fun _ => IntKind → Int → Int → St → (AV → St → Bool) → Bool) (fun _ _ _ _ _ => false) (fun kk x y s k => boN (leI x y) s k) (Nat.beq (kxQ kk) (kxQ ky)) kk x y s k) (fun _ _ _ _ _ => false) (fun _ _ _ _ => false) (fun _ _ _ _ _ _ => false) (fun _ _ _ _ => false) (fun _ _ _ _ _ _ _ _ => false) (fun _ _ _ _ _ _ _ _ _ => false) (fun _ _ _ _ => false) (fun _ _ _ _ _ _ _ _ _ => false) (fun _ _ _ _ => false) (fun _ _ _ _ => false) (fun _ _ _ _ _ => false) (fun _ _ _ _ _ _ => false) (fun _ _ _ _ _ _ => false) () (fun _ _ _ _ => ()) y kk x s k) (fun x y s k => strF .gtr x y s k) (fun _ _ _ => false) (fun _ _ _ _ _ => false) (fun _ _ _ => false) (fun _ _ _ _ _ _ _ => false) (fun _ _ _ _ _ _ _ _ => false) (fun _ _ _ => false) (fun _ _ _ _ _ _ _ _ => false) (fun _ _ _ => false) (fun _ _ _ => false) (fun _ _ _ _ => false) (fun _ _ _ _ _ => false) (fun _ _ _ _ _ => false) () (fun _ _ _ _ => ()) x y s k
noncomputable def geqF (x y : AV) (s : St) (k : AV → St → Bool) : Bool := AV.rec (motive_1 := fun _ => AV → St → (AV → St → Bool) → Bool) (motive_2 := fun _ => Unit) (fun _ _ _ _ => false) (fun kk x y s k => AV.rec (motive_1 := fun _ => IntKind → Int → St → (AV → St → Bool) → Bool) (motive_2 := fun _ => Unit) (fun _ _ _ _ _ => false) (fun ky y kk x s k => Bool.rec (motive := fun _ => IntKind → Int → Int → St → (AV → St → Bool) → Bool) (fun _ _ _ _ _ => false) (fun kk x y s k => boK (leI y x) s k) (Nat.beq (kxQ kk) (kxQ ky)) kk x y s k) (fun _ _ _ _ _ => false) (fun _ _ _ _ => false) (fun _ _ _ _ _ _ => false) (fun _ _ _ _ => false) (fun _ _ _ _ _ _ _ _ => false) (fun _ _ _ _ _ _ _ _ _ => false) (fun _ _ _ _ => false) (fun _ _ _ _ _ _ _ _ _ => false) (fun _ _ _ _ => false) (fun _ _ _ _ => false) (fun _ _ _ _ _ => false) (fun _ _ _ _ _ _ => false) (fun _ _ _ _ _ _ => false) () (fun _ _ _ _ => ()) y kk x s k) (fun x y s k => strF .geq x y s k) (fun _ _ _ => false) (fun _ _ _ _ _ => false) (fun _ _ _ => false) (fun _ _ _ _ _ _ _ => false) (fun _ _ _ _ _ _ _ _ => false) (fun _ _ _ => false) (fun _ _ _ _ _ _ _ _ => false) (fun _ _ _ => false) (fun _ _ _ => false) (fun _ _ _ _ => false) (fun _ _ _ _ _ => false) (fun _ _ _ _ _ => false) () (fun _ _ _ _ => ()) x y s k
noncomputable def mulI (x y : Int) : Int := Int.rec (motive := fun _ => Int → Int) (fun a y => Int.rec (motive := fun _ => Nat → Int) (fun b a => .ofNat (Nat.mul a b)) (fun b a => Int.neg (.ofNat (Nat.mul a (Nat.succ b)))) y a) (fun a y => Int.rec (motive := fun _ => Nat → Int) (fun b a => Int.neg (.ofNat (Nat.mul (Nat.succ a) b))) (fun b a => .ofNat (Nat.mul (Nat.succ a) (Nat.succ b))) y a) x y
noncomputable def mdQ (k : IntKind) : Nat := IntKind.rec (motive := fun _ => Nat) 256 65536 4294967296 18446744073709551616 256 65536 4294967296 18446744073709551616 k
noncomputable def btQ (k : IntKind) : Nat := IntKind.rec (motive := fun _ => Nat) 8 16 32 64 8 16 32 64 k
noncomputable def andK (kk : IntKind) (a b : Nat) (s : St) (k : AV → St → Bool) : Bool := Bool.rec (motive := fun _ => IntKind → Nat → Nat → St → (AV → St → Bool) → Bool) (fun _ _ _ _ _ => false) (fun kk a b s k => Bool.rec (motive := fun _ => IntKind → Nat → Nat → St → (AV → St → Bool) → Bool) (fun _ _ _ _ _ => false) (fun kk a b s k => wrK kk (.ofNat (Nat.land a b)) s k) (Nat.blt b (mdQ kk)) kk a b s k) (Nat.blt a (mdQ kk)) kk a b s k
noncomputable def andF (x y : AV) (s : St) (k : AV → St → Bool) : Bool := AV.rec (motive_1 := fun _ => AV → St → (AV → St → Bool) → Bool) (motive_2 := fun _ => Unit) (fun _ _ _ _ => false) (fun kk x y s k => AV.rec (motive_1 := fun _ => IntKind → Int → St → (AV → St → Bool) → Bool) (motive_2 := fun _ => Unit) (fun _ _ _ _ _ => false) (fun ky y kk x s k => Bool.rec (motive := fun _ => IntKind → Int → Int → St → (AV → St → Bool) → Bool) (fun _ _ _ _ _ => false) (fun kk x y s k => Int.rec (motive := fun _ => Int → IntKind → St → (AV → St → Bool) → Bool) (fun a y kk s k => Int.rec (motive := fun _ => Nat → IntKind → St → (AV → St → Bool) → Bool) (fun b a kk s k => andK kk a b s k) (fun _ _ _ _ _ => false) y a kk s k) (fun _ _ _ _ _ => false) x y kk s k) (Nat.beq (kxQ kk) (kxQ ky)) kk x y s k) (fun _ _ _ _ _ => false) (fun _ _ _ _ => false) (fun _ _ _ _ _ _ => false) (fun _ _ _ _ => false) (fun _ _ _ _ _ _ _ _ => false) (fun _ _ _ _ _ _ _ _ _ => false) (fun _ _ _ _ => false) (fun _ _ _ _ _ _ _ _ _ => false) (fun _ _ _ _ => false) (fun _ _ _ _ => false) (fun _ _ _ _ _ => false) (fun _ _ _ _ _ _ => false) (fun _ _ _ _ _ _ => false) () (fun _ _ _ _ => ()) y kk x s k) (fun x y s k => strF .and x y s k) (fun _ _ _ => false) (fun _ _ _ _ _ => false) (fun _ _ _ => false) (fun _ _ _ _ _ _ _ => false) (fun _ _ _ _ _ _ _ _ => false) (fun _ _ _ => false) (fun _ _ _ _ _ _ _ _ => false) (fun _ _ _ => false) (fun _ _ _ => false) (fun _ _ _ _ => false) (fun _ _ _ _ _ => false) (fun _ _ _ _ _ => false) () (fun _ _ _ _ => ()) x y s k
noncomputable def orK (kk : IntKind) (a b : Nat) (s : St) (k : AV → St → Bool) : Bool := Bool.rec (motive := fun _ => IntKind → Nat → Nat → St → (AV → St → Bool) → Bool) (fun _ _ _ _ _ => false) (fun kk a b s k => Bool.rec (motive := fun _ => IntKind → Nat → Nat → St → (AV → St → Bool) → Bool) (fun _ _ _ _ _ => false) (fun kk a b s k => wrK kk (.ofNat (Nat.lor a b)) s k) (Nat.blt b (mdQ kk)) kk a b s k) (Nat.blt a (mdQ kk)) kk a b s k
noncomputable def orF (x y : AV) (s : St) (k : AV → St → Bool) : Bool := AV.rec (motive_1 := fun _ => AV → St → (AV → St → Bool) → Bool) (motive_2 := fun _ => Unit) (fun _ _ _ _ => false) (fun kk x y s k => AV.rec (motive_1 := fun _ => IntKind → Int → St → (AV → St → Bool) → Bool) (motive_2 := fun _ => Unit) (fun _ _ _ _ _ => false) (fun ky y kk x s k => Bool.rec (motive := fun _ => IntKind → Int → Int → St → (AV → St → Bool) → Bool) (fun _ _ _ _ _ => false) (fun kk x y s k => Int.rec (motive := fun _ => Int → IntKind → St → (AV → St → Bool) → Bool) (fun a y kk s k => Int.rec (motive := fun _ => Nat → IntKind → St → (AV → St → Bool) → Bool) (fun b a kk s k => orK kk a b s k) (fun _ _ _ _ _ => false) y a kk s k) (fun _ _ _ _ _ => false) x y kk s k) (Nat.beq (kxQ kk) (kxQ ky)) kk x y s k) (fun _ _ _ _ _ => false) (fun _ _ _ _ => false) (fun _ _ _ _ _ _ => false) (fun _ _ _ _ => false) (fun _ _ _ _ _ _ _ _ => false) (fun _ _ _ _ _ _ _ _ _ => false) (fun _ _ _ _ => false) (fun _ _ _ _ _ _ _ _ _ => false) (fun _ _ _ _ => false) (fun _ _ _ _ => false) (fun _ _ _ _ _ => false) (fun _ _ _ _ _ _ => false) (fun _ _ _ _ _ _ => false) () (fun _ _ _ _ => ()) y kk x s k) (fun x y s k => strF .or x y s k) (fun _ _ _ => false) (fun _ _ _ _ _ => false) (fun _ _ _ => false) (fun _ _ _ _ _ _ _ => false) (fun _ _ _ _ _ _ _ _ => false) (fun _ _ _ => false) (fun _ _ _ _ _ _ _ _ => false) (fun _ _ _ => false) (fun _ _ _ => false) (fun _ _ _ _ => false) (fun _ _ _ _ _ => false) (fun _ _ _ _ _ => false) () (fun _ _ _ _ => ()) x y s k
noncomputable def xorK (kk : IntKind) (a b : Nat) (s : St) (k : AV → St → Bool) : Bool := Bool.rec (motive := fun _ => IntKind → Nat → Nat → St → (AV → St → Bool) → Bool) (fun _ _ _ _ _ => false) (fun kk a b s k => Bool.rec (motive := fun _ => IntKind → Nat → Nat → St → (AV → St → Bool) → Bool) (fun _ _ _ _ _ => false) (fun kk a b s k => wrK kk (.ofNat (Nat.xor a b)) s k) (Nat.blt b (mdQ kk)) kk a b s k) (Nat.blt a (mdQ kk)) kk a b s k
noncomputable def xorF (x y : AV) (s : St) (k : AV → St → Bool) : Bool := AV.rec (motive_1 := fun _ => AV → St → (AV → St → Bool) → Bool) (motive_2 := fun _ => Unit) (fun _ _ _ _ => false) (fun kk x y s k => AV.rec (motive_1 := fun _ => IntKind → Int → St → (AV → St → Bool) → Bool) (motive_2 := fun _ => Unit) (fun _ _ _ _ _ => false) (fun ky y kk x s k => Bool.rec (motive := fun _ => IntKind → Int → Int → St → (AV → St → Bool) → Bool) (fun _ _ _ _ _ => false) (fun kk x y s k => Int.rec (motive := fun _ => Int → IntKind → St → (AV → St → Bool) → Bool) (fun a y kk s k => Int.rec (motive := fun _ => Nat → IntKind → St → (AV → St → Bool) → Bool) (fun b a kk s k => xorK kk a b s k) (fun _ _ _ _ _ => false) y a kk s k) (fun _ _ _ _ _ => false) x y kk s k) (Nat.beq (kxQ kk) (kxQ ky)) kk x y s k) (fun _ _ _ _ _ => false) (fun _ _ _ _ => false) (fun _ _ _ _ _ _ => false) (fun _ _ _ _ => false) (fun _ _ _ _ _ _ _ _ => false) (fun _ _ _ _ _ _ _ _ _ => false) (fun _ _ _ _ => false) (fun _ _ _ _ _ _ _ _ _ => false) (fun _ _ _ _ => false) (fun _ _ _ _ => false) (fun _ _ _ _ _ => false) (fun _ _ _ _ _ _ => false) (fun _ _ _ _ _ _ => false) () (fun _ _ _ _ => ()) y kk x s k) (fun x y s k => strF .xor x y s k) (fun _ _ _ => false) (fun _ _ _ _ _ => false) (fun _ _ _ => false) (fun _ _ _ _ _ _ _ => false) (fun _ _ _ _ _ _ _ _ => false) (fun _ _ _ => false) (fun _ _ _ _ _ _ _ _ => false) (fun _ _ _ => false) (fun _ _ _ => false) (fun _ _ _ _ => false) (fun _ _ _ _ _ => false) (fun _ _ _ _ _ => false) () (fun _ _ _ _ => ()) x y s k
noncomputable def mulF (x y : AV) (s : St) (k : AV → St → Bool) : Bool := AV.rec (motive_1 := fun _ => AV → St → (AV → St → Bool) → Bool) (motive_2 := fun _ => Unit) (fun _ _ _ _ => false) (fun kk x y s k => AV.rec (motive_1 := fun _ => IntKind → Int → St → (AV → St → Bool) → Bool) (motive_2 := fun _ => Unit) (fun _ _ _ _ _ => false) (fun ky y kk x s k => Bool.rec (motive := fun _ => IntKind → Int → Int → St → (AV → St → Bool) → Bool) (fun _ _ _ _ _ => false) (fun kk x y s k => wrK kk (mulI x y) s k) (Nat.beq (kxQ kk) (kxQ ky)) kk x y s k) (fun _ _ _ _ _ => false) (fun _ _ _ _ => false) (fun _ _ _ _ _ _ => false) (fun _ _ _ _ => false) (fun _ _ _ _ _ _ _ _ => false) (fun _ _ _ _ _ _ _ _ _ => false) (fun _ _ _ _ => false) (fun _ _ _ _ _ _ _ _ _ => false) (fun _ _ _ _ => false) (fun _ _ _ _ => false) (fun _ _ _ _ _ => false) (fun _ _ _ _ _ _ => false) (fun _ _ _ _ _ _ => false) () (fun _ _ _ _ => ()) y kk x s k) (fun x y s k => strF .mul x y s k) (fun _ _ _ => false) (fun _ _ _ _ _ => false) (fun _ _ _ => false) (fun _ _ _ _ _ _ _ => false) (fun _ _ _ _ _ _ _ _ => false) (fun _ _ _ => false) (fun _ _ _ _ _ _ _ _ => false) (fun _ _ _ => false) (fun _ _ _ => false) (fun _ _ _ _ => false) (fun _ _ _ _ _ => false) (fun _ _ _ _ _ => false) () (fun _ _ _ _ => ()) x y s k
noncomputable def minQ (a b : Nat) : Nat := Bool.rec (motive := fun _ => Nat → Nat → Nat) (fun _ b => b) (fun a _ => a) (Nat.ble a b) a b
noncomputable def shlK (kk : IntKind) (x y : Int) (s : St) (k : AV → St → Bool) : Bool := Int.rec (motive := fun _ => IntKind → Int → St → (AV → St → Bool) → Bool) (fun b kk x s k => wrK kk (mulI x (.ofNat (Nat.pow 2 (minQ b (btQ kk))))) s k) (fun _ _ _ _ _ => false) y kk x s k
noncomputable def shrK (kk : IntKind) (x y : Int) (s : St) (k : AV → St → Bool) : Bool := Int.rec (motive := fun _ => IntKind → Int → St → (AV → St → Bool) → Bool) (fun b kk x s k => Int.rec (motive := fun _ => IntKind → Nat → St → (AV → St → Bool) → Bool) (fun a kk b s k => k (.i kk (.ofNat (Nat.div a (Nat.pow 2 (minQ b (btQ kk)))))) s) (fun _ _ _ _ _ => false) x kk b s k) (fun _ _ _ _ _ => false) y kk x s k
noncomputable def shlF (x y : AV) (s : St) (k : AV → St → Bool) : Bool := AV.rec (motive_1 := fun _ => AV → St → (AV → St → Bool) → Bool) (motive_2 := fun _ => Unit) (fun _ _ _ _ => false) (fun kk x y s k => AV.rec (motive_1 := fun _ => IntKind → Int → St → (AV → St → Bool) → Bool) (motive_2 := fun _ => Unit) (fun _ _ _ _ _ => false) (fun ky y kk x s k => shlK kk x y s k) (fun _ _ _ _ _ => false) (fun _ _ _ _ => false) (fun _ _ _ _ _ _ => false) (fun _ _ _ _ => false) (fun _ _ _ _ _ _ _ _ => false) (fun _ _ _ _ _ _ _ _ _ => false) (fun _ _ _ _ => false) (fun _ _ _ _ _ _ _ _ _ => false) (fun _ _ _ _ => false) (fun _ _ _ _ => false) (fun _ _ _ _ _ => false) (fun _ _ _ _ _ _ => false) (fun _ _ _ _ _ _ => false) () (fun _ _ _ _ => ()) y kk x s k) (fun x y s k => strF .shl x y s k) (fun _ _ _ => false) (fun _ _ _ _ _ => false) (fun _ _ _ => false) (fun _ _ _ _ _ _ _ => false) (fun _ _ _ _ _ _ _ _ => false) (fun _ _ _ => false) (fun _ _ _ _ _ _ _ _ => false) (fun _ _ _ => false) (fun _ _ _ => false) (fun _ _ _ _ => false) (fun _ _ _ _ _ => false) (fun _ _ _ _ _ => false) () (fun _ _ _ _ => ()) x y s k
noncomputable def shrF (x y : AV) (s : St) (k : AV → St → Bool) : Bool := AV.rec (motive_1 := fun _ => AV → St → (AV → St → Bool) → Bool) (motive_2 := fun _ => Unit) (fun _ _ _ _ => false) (fun kk x y s k => AV.rec (motive_1 := fun _ => IntKind → Int → St → (AV → St → Bool) → Bool) (motive_2 := fun _ => Unit) (fun _ _ _ _ _ => false) (fun ky y kk x s k => shrK kk x y s k) (fun _ _ _ _ _ => false) (fun _ _ _ _ => false) (fun _ _ _ _ _ _ => false) (fun _ _ _ _ => false) (fun _ _ _ _ _ _ _ _ => false) (fun _ _ _ _ _ _ _ _ _ => false) (fun _ _ _ _ => false) (fun _ _ _ _ _ _ _ _ _ => false) (fun _ _ _ _ => false) (fun _ _ _ _ => false) (fun _ _ _ _ _ => false) (fun _ _ _ _ _ _ => false) (fun _ _ _ _ _ _ => false) () (fun _ _ _ _ => ()) y kk x s k) (fun x y s k => strF .shr x y s k) (fun _ _ _ => false) (fun _ _ _ _ _ => false) (fun _ _ _ => false) (fun _ _ _ _ _ _ _ => false) (fun _ _ _ _ _ _ _ _ => false) (fun _ _ _ => false) (fun _ _ _ _ _ _ _ _ => false) (fun _ _ _ => false) (fun _ _ _ => false) (fun _ _ _ _ => false) (fun _ _ _ _ _ => false) (fun _ _ _ _ _ => false) () (fun _ _ _ _ => ()) x y s k
structure BV where
  v : AV → AV → M AV
noncomputable def dB (o : BinOp) : BV := match o with
  | .add => ⟨addF⟩
  | .sub => ⟨subF⟩
  | .eql => ⟨eqlF⟩
  | .neq => ⟨neqF⟩
  | .lss => ⟨lssF⟩
  | .leq => ⟨leqF⟩
  | .gtr => ⟨gtrF⟩
  | .geq => ⟨geqF⟩
  | .mul => ⟨mulF⟩
  | .and => ⟨andF⟩
  | .or => ⟨orF⟩
  | .xor => ⟨xorF⟩
  | .shl => ⟨shlF⟩
  | .shr => ⟨shrF⟩
  | o => ⟨binF o⟩
noncomputable def notF (x : AV) (s : St) (k : AV → St → Bool) : Bool := AV.rec (motive_1 := fun _ => St → (AV → St → Bool) → Bool) (motive_2 := fun _ => Unit) (fun t s k => boN t s k) (fun _ _ _ _ => false) (fun _ _ _ => false) (fun _ _ => false) (fun _ _ _ _ => false) (fun _ _ => false) (fun _ _ _ _ _ _ => false) (fun _ _ _ _ _ _ _ => false) (fun _ _ => false) (fun _ _ _ _ _ _ _ => false) (fun _ _ => false) (fun _ _ => false) (fun _ _ _ => false) (fun _ _ _ _ => false) (fun _ _ _ _ => false) () (fun _ _ _ _ => ()) x s k
noncomputable def cviF (kk : IntKind) (x : AV) (s : St) (k : AV → St → Bool) : Bool := AV.rec (motive_1 := fun _ => IntKind → St → (AV → St → Bool) → Bool) (motive_2 := fun _ => Unit) (fun _ _ _ _ => false) (fun _ a kk s k => wrK kk a s k) (fun _ _ _ _ => false) (fun _ _ _ => false) (fun _ _ _ _ _ => false) (fun _ _ _ => false) (fun _ _ _ _ _ _ _ => false) (fun _ _ _ _ _ _ _ _ => false) (fun _ _ _ => false) (fun _ _ _ _ _ _ _ _ => false) (fun _ _ _ => false) (fun _ _ _ => false) (fun _ _ _ _ => false) (fun _ _ _ _ _ => false) (fun _ _ _ _ _ => false) () (fun _ _ _ _ => ()) x kk s k
noncomputable def lenK (x : AV) (s : St) (k : AV → St → Bool) : Bool := AV.rec (motive_1 := fun _ => St → (AV → St → Bool) → Bool) (motive_2 := fun _ => Unit) (fun _ _ _ => false) (fun _ _ _ _ => false) (fun _ _ _ => false) (fun _ _ => false) (fun _ _ _ _ => false) (fun s k => k (.i .i64 (.ofNat 0)) s) (fun _ _ n _ s k => k (.i .i64 (.ofNat n)) s) (fun _ _ n _ _ s k => k (.i .i64 (.ofNat n)) s) (fun _ _ => false) (fun _ _ _ _ _ _ _ => false) (fun _ _ => false) (fun _ _ => false) (fun _ _ _ => false) (fun _ _ _ _ => false) (fun _ _ _ _ => false) () (fun _ _ _ _ => ()) x s k
structure XV where
  v : List AV → M AV
noncomputable def dX (j : Nat) : XV := match j with
  | 0 => ⟨fun l s k => List.rec (motive := fun _ => St → (AV → St → Bool) → Bool) (fun _ _ => false) (fun v _ _ s k => k v s) l s k⟩
  | j + 1 => ⟨fun l s k => List.rec (motive := fun _ => St → (AV → St → Bool) → Bool) (fun _ _ => false) (fun _ l _ s k => (dX j).v l s k) l s k⟩
noncomputable def extK (f : XV) (x : AV) (s : St) (k : AV → St → Bool) : Bool := AV.rec (motive_1 := fun _ => XV → St → (AV → St → Bool) → Bool) (motive_2 := fun _ => Unit) (fun _ _ _ _ => false) (fun _ _ _ _ _ => false) (fun _ _ _ _ => false) (fun _ _ _ => false) (fun _ _ _ _ _ => false) (fun _ _ _ => false) (fun _ _ _ _ _ _ _ => false) (fun _ _ _ _ _ _ _ _ => false) (fun _ _ _ => false) (fun _ _ _ _ _ _ _ _ => false) (fun _ _ _ => false) (fun _ _ _ => false) (fun _ _ _ _ => false) (fun _ _ _ _ _ => false) (fun xs _ f s k => f.v xs s k) () (fun _ _ _ _ => ()) x f s k
noncomputable def newK (z : Bool) (n : Nat) (t : Tr) : M AV := fun s k => newT (zc z true true) n t s fun id s => k (.p id 0) s
noncomputable def boxF (z : Bool) (v : AV) (s : St) (k : AV → St → Bool) : Bool := AV.rec (motive_1 := fun _ => Bool → St → (AV → St → Bool) → Bool) (motive_2 := fun _ => Unit) (fun x z s k => newK z 1 (.t0 (.b x)) s k) (fun k0 x z s k => newK z 1 (.t0 (.i k0 x)) s k) (fun x z s k => newK z 1 (.t0 (.s x)) s k) (fun z s k => newK z 1 (.t0 (.p0)) s k) (fun id off z s k => newK z 1 (.t0 (.p id off)) s k) (fun z s k => newK z 1 (.t0 (.s0)) s k) (fun id off len cap z s k => newK z 1 (.t0 (.sl id off len cap)) s k) (fun id off len k0 w0 z s k => newK z 1 (.t0 (.so id off len k0 w0)) s k) (fun z s k => newK z 1 (.t0 (.f0)) s k) (fun fn first cap _ _ z s k => newK z 1 (.t0 (.f fn first cap)) s k) (fun z s k => newK z 1 (.t0 (.i0)) s k) (fun z s k => newK z 1 (.t0 (.m0)) s k) (fun id z s k => newK z 1 (.t0 (.m id)) s k) (fun xs _ z s k => toT xs fun t => newK z (lnL xs) t s k) (fun _ _ _ _ _ => false) () (fun _ _ _ _ => ()) v z s k
structure Fn where
  fn : Nat → List AV → M AV
noncomputable def callF (F : Fn) (x : AV) (l : List AV) (s : St) (k : AV → St → Bool) : Bool := AV.rec (motive_1 := fun _ => Fn → List AV → St → (AV → St → Bool) → Bool) (motive_2 := fun _ => Unit) (fun _ _ _ _ _ => false) (fun _ _ _ _ _ _ => false) (fun _ _ _ _ _ => false) (fun _ _ _ _ => false) (fun _ _ _ _ _ _ => false) (fun _ _ _ _ => false) (fun _ _ _ _ _ _ _ _ => false) (fun _ _ _ _ _ _ _ _ _ => false) (fun _ _ _ _ => false) (fun fn first cap _ _ F l s k => F.fn fn (apL first (List.rec (motive := fun _ => List AV → List AV) (fun l => l) (fun v m _ l => apL l (v :: m)) cap l)) s k) (fun _ _ _ _ => false) (fun _ _ _ _ => false) (fun _ _ _ _ _ => false) (fun _ _ _ _ _ _ => false) (fun _ _ _ _ _ _ => false) () (fun _ _ _ _ => ()) x F l s k
noncomputable def firstL (w n : Nat) (v : AV) : M (List AV) := match v with
  | .s0 => M.pure []
  | .sl id off _ _ => rd id off (n * w)
  | .so id off _ _ _ => rd id off (n * w)
  | .s b => M.ifB (Nat.beq w 1) (M.pure (bytesL (b.take n)))
  | _ => M.no
noncomputable def grow (z : Bool) (w : Nat) (s : AV) (n : Nat) (new : List AV) : M AV := match s with
  | .s0 => match Nat.beq n 0 with
    | true => M.pure .s0
    | false => M.bind (Kq.new (zc z true false) new) fun id => M.pure (.so id 0 n n w)
  | .sl id off len cap => match Nat.ble (len + n) cap with
    | true => M.bind (wr id (off + len * w) new) fun _ => M.pure (.sl id off (len + n) cap)
    | false => M.ifB (Nat.ble len lim) (M.bind (rd id off (len * w)) fun old => M.bind (Kq.new (zc z true false) (old ++ new)) fun id => M.pure (.so id 0 (len + n) (len + n) w))
  | .so id off len k w' => M.ifB (Nat.beq w w') (match Nat.ble (len + n) k with
    | true => M.bind (wr id (off + len * w) new) fun _ => M.pure (.so id off (len + n) k w)
    | false => M.ifB (Nat.ble len lim) (M.bind (over id off (len * w) new) fun id => M.pure (.so id 0 (len + n) (len + n) w)))
  | _ => M.no
noncomputable def appF (z : Bool) (w : Nat) (s x : AV) : M AV := M.ofO (lenO x) fun n => M.ifB (Nat.ble n lim) (M.bind (firstL w n x) fun new => grow z w s n new)
noncomputable def apzF (z : Bool) (w : Nat) (cs : List AV) (s x : AV) : M AV := M.ofO (natOf x) fun n => M.ifB (Nat.ble n lim) (grow z w s n (repL cs n))
noncomputable def cpyF (w : Nat) (d x : AV) : M AV := M.ofO (lenO x) fun m => match d with
  | .s0 => M.pure (.i .i64 (.ofNat 0))
  | .sl id off len _ => M.bind (firstL w (minN m len) x) fun l => M.bind (wr id off l) fun _ => M.pure (.i .i64 (.ofNat (minN m len)))
  | .so id off len _ _ => M.bind (firstL w (minN m len) x) fun l => M.bind (wr id off l) fun _ => M.pure (.i .i64 (.ofNat (minN m len)))
  | _ => M.no
noncomputable def clrF (cs : List AV) (d : AV) : M AV := match d with
  | .s0 => M.pure (.tu [])
  | .sl id off len _ => M.bind (wr id off (repL cs len)) fun _ => M.pure (.tu [])
  | .so id off len _ _ => M.bind (wr id off (repL cs len)) fun _ => M.pure (.tu [])
  | _ => M.no
noncomputable def vlQ (d : Dg) : Nat := Dg.rec (motive := fun _ => Nat) 0 1 2 3 4 5 6 7 d
noncomputable def nmQ (i : Id) : Nat := Nat.add (Nat.mul (Nat.add (Nat.mul (Nat.add (Nat.mul (Nat.add (Nat.mul (Nat.add (Nat.mul (vlQ i.a) 8) (vlQ i.b)) 8) (vlQ i.c)) 8) (vlQ i.d)) 8) (vlQ i.e)) 8) (vlQ i.f)
noncomputable def eqP (i : Id) (a : Nat) (j : Id) (b : Nat) : M Bool := match Nat.beq (nmQ i) (nmQ j) with
  | true => M.pure (Nat.beq a b)
  | false => M.bind (shared i) fun z => M.bind (shared j) fun z' => M.ifB (!(z.s || z'.s)) (M.pure false)
noncomputable def eqB (x y : AV) : M Bool := match x with
  | .b x => match y with
    | .b y => M.pure (x == y)
    | _ => M.no
  | _ => M.no
noncomputable def eqQ (x y : AV) : M Bool := match x with
  | .p0 => match y with
    | .p0 => M.pure true
    | .p _ _ => M.pure false
    | _ => M.no
  | .p i a => match y with
    | .p0 => M.pure false
    | .p j b => eqP i a j b
    | _ => M.no
  | _ => M.no
noncomputable def eqS (x y : AV) : M Bool := match x with
  | .s0 => match y with
    | .s0 => M.pure true
    | .sl _ _ _ _ => M.pure false
    | .so _ _ _ _ _ => M.pure false
    | _ => M.no
  | .sl _ _ _ _ => match y with
    | .s0 => M.pure false
    | _ => M.no
  | .so _ _ _ _ _ => match y with
    | .s0 => M.pure false
    | _ => M.no
  | _ => M.no
noncomputable def eqF (x y : AV) : M Bool := match x with
  | .f0 => match y with
    | .f0 => M.pure true
    | .f _ _ _ => M.pure false
    | _ => M.no
  | .f _ _ _ => match y with
    | .f0 => M.pure false
    | _ => M.no
  | _ => M.no
noncomputable def eqG (m : Nat) (x y : AV) : M Bool := match x with
  | .ag xs => match y with
    | .ag ys => match Nat.beq xs.length m with
      | true => M.ofO (ceqs xs ys) M.pure
      | false => M.no
    | _ => M.no
  | _ => M.no
noncomputable def eqK (kd : Nat) (x y : AV) : M Bool := match kd with
  | 0 => eqB x y
  | 1 => eqQ x y
  | 2 => eqS x y
  | 3 => eqF x y
  | m + 4 => eqG m x y
noncomputable def eqN (kd : Nat) (ng : Bool) (x y : AV) : M AV := M.bind (eqK kd x y) fun r => M.pure (.b (ng != r))
noncomputable def cvtL (l : List AV) : M AV := M.ofO (bytesOf l) fun bs => M.pure (.s bs)
noncomputable def cvtF (x : AV) : M AV := match x with
  | .s0 => M.pure (.s [])
  | .sl id off len _ => M.bind (rd id off len) cvtL
  | .so id off len _ _ => M.bind (rd id off len) cvtL
  | _ => M.no
noncomputable def cvmF (x : AV) : M AV := match x with
  | .sl id a b c => M.bind (shared id) fun z => M.ifB z.s (M.pure (.sl id a b c))
  | .so id a b c d => M.bind (shared id) fun z => M.ifB z.s (M.pure (.so id a b c d))
  | _ => M.no
noncomputable def cvbF (x : AV) : M AV := match x with
  | .s b => M.ifB (Nat.ble b.length lim) (M.bind (Kq.new (zc true true false) (bytesL b)) fun id => M.pure (.so id 0 b.length b.length 1))
  | _ => M.no
noncomputable def mkT (z : Zf) (cs : List AV) (c : Nat) : M Id := match cs with
  | [v] => newT z c (allT c v)
  | cs => new z (repL cs c)
noncomputable def mksF (z : Bool) (cs : List AV) (l c : AV) : M AV := M.ofO (natOf l) fun l => M.ofO (natOf c) fun c =>
  M.ifB (Nat.ble l c && Nat.ble c lim) (M.bind (mkT (zc z true true) cs c) fun id => M.pure (.sl id 0 l c))
noncomputable def cvsF (x : AV) : M AV := match x with
  | .s b => M.pure (.s b)
  | _ => M.no
noncomputable def lkF (q : Option Nat) (z : AV) (ok : Bool) (x k : AV) : M AV := M.ifB (keyOk q k) (match x with
  | .m0 => M.pure (lkR ok z false)
  | .m id => M.bind (rdM id) fun l => M.ofO (mapL l) fun nl => M.ofO (findM k nl.2 0) fun r => match r with
    | some e => M.pure (lkR ok e.v true)
    | none => M.pure (lkR ok z false)
  | _ => M.no)
noncomputable def mupF (q : Option Nat) (x k v : AV) : M AV := M.ifB (keyOk q k) (match x with
  | .m id => M.bind (rdM id) fun l => M.ofO (mapL l) fun nl => M.ofO (findM k nl.2 0) fun r => M.bind (wrM id (match r with
    | some e => clk nl.1 (setAt nl.2 e.i k v e.b)
    | none => clk (nl.1 + 1) (nl.2 ++ [k,v,.i .i64 (.ofNat nl.1)]))) fun _ => M.pure und
  | _ => M.no)
noncomputable def menF (q : Option Nat) (z : AV) (x k : AV) : M AV := M.ifB (keyOk q k) (match x with
  | .m id => M.bind (rdM id) fun l => M.ofO (mapL l) fun nl => M.ofO (findM k nl.2 0) fun r => match r with
    | some e => M.bind (wrM id (clk nl.1 (setAt nl.2 e.i k e.v e.b))) fun _ => M.pure (.tu [e.v,e.b])
    | none => M.bind (wrM id (clk (nl.1 + 1) (nl.2 ++ [k,z,.i .i64 (.ofNat nl.1)]))) fun _ => M.pure (.tu [z,.i .i64 (.ofNat nl.1)])
  | _ => M.no)
noncomputable def mesF (x b v : AV) : M AV := match x with
  | .m id => M.bind (rdM id) fun l => M.ofO (mapL l) fun nl => M.ofO (stampM b nl.2 0) fun r => M.bind (wrM id (clk nl.1 (setAt nl.2 r.1 r.2 v b))) fun _ => M.pure und
  | _ => M.no
noncomputable def delF (q : Option Nat) (x k : AV) : M AV := M.ifB (keyOk q k) (match x with
  | .m0 => M.pure (.tu [])
  | .m id => M.bind (rdM id) fun l => M.ofO (mapL l) fun nl => M.ofO (findM k nl.2 0) fun r => match r with
    | some e => M.bind (wrM id (clk nl.1 (cutAt nl.2 e.i))) fun _ => M.pure (.tu [])
    | none => M.pure (.tu [])
  | _ => M.no)
noncomputable def lnmF (x : AV) : M AV := match x with
  | .m0 => M.pure (.i .i64 (.ofNat 0))
  | .m id => M.bind (rdM id) fun l => M.ofO (mapL l) fun nl => M.pure (.i .i64 (.ofNat (nl.2.length / 3)))
  | _ => M.no
noncomputable def mkmF : M AV := M.bind (Kq.new (zm (clk 0 [])) []) fun id => M.pure (.m id)
noncomputable def ixtF (x i : AV) : M AV := M.ofO (natOf i) fun a => match x with
  | .s b => M.ofO b[a]? fun c => M.pure (.i .u8 (.ofNat c))
  | _ => M.no
noncomputable def sapF (n : Nat) (x : AV) : M AV := match x with
  | .sl id off len _ => M.ifB (Nat.ble n len && Nat.ble 1 n) (M.pure (.p id off))
  | .so id off len _ _ => M.ifB (Nat.ble n len && Nat.ble 1 n) (M.pure (.p id off))
  | _ => M.no
noncomputable def tkL (m : Nat) (l : List AV) (k : List AV → Bool) : Bool := Nat.rec (motive := fun _ => List AV → (List AV → Bool) → Bool) (fun _ k => k []) (fun _ ih l k => List.rec (motive := fun _ => (List AV → (List AV → Bool) → Bool) → (List AV → Bool) → Bool) (fun _ k => k []) (fun v l _ ih k => fo1 v fun v => ih l fun t => k (v :: t)) l ih k) m l k
noncomputable def fldV (off m : Nat) (ag : Bool) (xs : List AV) : M AV := Bool.rec (motive := fun _ => Nat → Nat → Bool → List AV → St → (AV → St → Bool) → Bool) (fun _ _ _ _ _ _ => false) (fun off m ag xs => Bool.rec (motive := fun _ => Nat → Nat → List AV → St → (AV → St → Bool) → Bool) (fun off _ xs s k => List.rec (motive := fun _ => St → (AV → St → Bool) → Bool) (fun _ _ => false) (fun v _ _ s k => fo1 v fun v => k v s) (drL off xs) s k) (fun off m xs s k => tkL m (drL off xs) fun l => k (.ag l) s) ag off m xs) (Nat.ble (Nat.add off m) (lnL xs)) off m ag xs
noncomputable def fldF (off m : Nat) (ag : Bool) (x : AV) (s : St) (k : AV → St → Bool) : Bool := AV.rec (motive_1 := fun _ => Nat → Nat → Bool → St → (AV → St → Bool) → Bool) (motive_2 := fun _ => Unit) (fun _ _ _ _ _ _ => false) (fun _ _ _ _ _ _ _ => false) (fun _ _ _ _ _ _ => false) (fun _ _ _ _ _ => false) (fun _ _ _ _ _ _ _ => false) (fun _ _ _ _ _ => false) (fun _ _ _ _ _ _ _ _ _ => false) (fun _ _ _ _ _ _ _ _ _ _ => false) (fun _ _ _ _ _ => false) (fun _ _ _ _ _ _ _ _ _ _ => false) (fun _ _ _ _ _ => false) (fun _ _ _ _ _ => false) (fun _ _ _ _ _ _ => false) (fun xs _ off m ag s k => fldV off m ag xs s k) (fun _ _ _ _ _ _ _ => false) () (fun _ _ _ _ => ()) x off m ag s k
noncomputable def idx2 (n w a : Nat) (ag : Bool) (x : AV) (s : St) (k : AV → St → Bool) : Bool := Bool.rec (motive := fun _ => Nat → Nat → Bool → AV → St → (AV → St → Bool) → Bool) (fun _ _ _ _ _ _ => false) (fun w a ag x s k => fldF (Nat.mul a w) w ag x s k) (Nat.blt a n) w a ag x s k
noncomputable def idxF (n w : Nat) (ag : Bool) (x i : AV) (s : St) (k : AV → St → Bool) : Bool := AV.rec (motive_1 := fun _ => Nat → Nat → Bool → AV → St → (AV → St → Bool) → Bool) (motive_2 := fun _ => Unit) (fun _ _ _ _ _ _ _ => false) (fun _ a n w ag x s k => Int.rec (motive := fun _ => Nat → Nat → Bool → AV → St → (AV → St → Bool) → Bool) (fun a n w ag x s k => idx2 n w a ag x s k) (fun _ _ _ _ _ _ _ => false) a n w ag x s k) (fun _ _ _ _ _ _ _ => false) (fun _ _ _ _ _ _ => false) (fun _ _ _ _ _ _ _ _ => false) (fun _ _ _ _ _ _ => false) (fun _ _ _ _ _ _ _ _ _ _ => false) (fun _ _ _ _ _ _ _ _ _ _ _ => false) (fun _ _ _ _ _ _ => false) (fun _ _ _ _ _ _ _ _ _ _ _ => false) (fun _ _ _ _ _ _ => false) (fun _ _ _ _ _ _ => false) (fun _ _ _ _ _ _ _ => false) (fun _ _ _ _ _ _ _ _ => false) (fun _ _ _ _ _ _ _ _ => false) () (fun _ _ _ _ => ()) i n w ag x s k

noncomputable def gA (x : Arg) : G := match x with
  | .t n => gtS n
  | .c v => ⟨fun _ => v⟩
structure GL where
  g : E → List AV
structure GO where
  g : E → Option AV
noncomputable def gL (l : List Arg) : GL := match l with
  | [] => ⟨fun _ => []⟩
  | x :: l => match gA x with
    | ⟨g⟩ => match gL l with
      | ⟨gs⟩ => ⟨fun e => g e :: gs e⟩
noncomputable def gO (x : Option Arg) : GO := match x with
  | none => ⟨fun _ => none⟩
  | some x => match gA x with
    | ⟨g⟩ => ⟨fun e => some (g e)⟩
structure FL where
  f : E → List AV → Option (List AV)
noncomputable def gF (ps : List Part) : FL := match ps with
  | [] => ⟨fun _ cs => some cs⟩
  | p :: ps => ⟨fun e cs => match ((gA p.x).g e).cells with
    | none => none
    | some l => match Nat.beq l.length p.m && Nat.ble (p.off + p.m) cs.length with
      | true => (gF ps).f e (setL l cs p.off)
      | false => none⟩
structure TL where
  f : E → Tr → (Tr → Bool) → Bool
noncomputable def gT (n : Nat) (ps : List Part) : TL := match ps with
  | [] => ⟨fun _ t k => k t⟩
  | p :: ps => match Nat.ble (p.off + p.m) n with
    | false => ⟨fun _ _ _ => false⟩
    | true => match Nat.beq p.m 1 with
      | true => match gA p.x with
        | ⟨g⟩ => match gT n ps with
          | ⟨f⟩ => ⟨fun e t k => cellsK p.m (g e) fun l => setT t p.off (hdL l) fun t => f e t k⟩
      | false => match gA p.x with
        | ⟨g⟩ => match gT n ps with
          | ⟨f⟩ => ⟨fun e t k => cellsK p.m (g e) fun l => putL l t p.off fun t => f e t k⟩
structure TC where
  t : Tr
noncomputable def sT1 (t : Tr) (i : Nat) (v : AV) : Tr := Tr.rec (motive := fun _ => Nat → AV → Tr) (fun _ _ v => .t0 v) (fun c i v => .t1 (w0 (e0 i) (fun _ => v) c)) (fun c i v => .t2 (w1 (e1 i) (w0 (e0 i) (fun _ => v)) c)) (fun c i v => .t3 (w2 (e2 i) (w1 (e1 i) (w0 (e0 i) (fun _ => v))) c)) (fun c i v => .t4 (w3 (e3 i) (w2 (e2 i) (w1 (e1 i) (w0 (e0 i) (fun _ => v)))) c)) (fun c i v => .t5 (w4 (e4 i) (w3 (e3 i) (w2 (e2 i) (w1 (e1 i) (w0 (e0 i) (fun _ => v))))) c)) (fun c i v => .t6 (w5 (e5 i) (w4 (e4 i) (w3 (e3 i) (w2 (e2 i) (w1 (e1 i) (w0 (e0 i) (fun _ => v)))))) c)) t i v
noncomputable def pT1 (l : List AV) (t : Tr) (i : Nat) : Tr := List.rec (motive := fun _ => Tr → Nat → Tr) (fun t _ => t) (fun v _ ih t i => ih (sT1 t i v) (Nat.succ i)) l t i
noncomputable def clT (l : List AV) : Tr := Bool.rec (motive := fun _ => List AV → Tr) (fun l => Bool.rec (motive := fun _ => List AV → Tr) (fun l => pT1 l (allT (lnL l) und) 0) (fun l => .t1 (pk l)) (Nat.ble (lnL l) 8) l) (fun l => .t0 (hdL l)) (Nat.ble (lnL l) 1) l
structure OV where
  v : Fn → E → M AV
noncomputable def dO (o : PO) : OV := match o with
  | .mv x => match gA x with
    | ⟨q0⟩ => ⟨fun _ e s k => k (q0 e) s⟩
  | .pick c a b => match gA c with
    | ⟨q0⟩ => match gA a with
      | ⟨q1⟩ => match gA b with
        | ⟨q2⟩ => ⟨fun _ e s k => pickF (q0 e) (q1 e) (q2 e) s k⟩
  | .new z cs => ⟨fun _ _ s k => newK z (lnL cs) (clT cs) s k⟩
  | .box z x => match gA x with
    | ⟨q0⟩ => ⟨fun _ e s k => boxF z (q0 e) s k⟩
  | .build cs ps => match gF ps with
    | ⟨f⟩ => ⟨fun _ e => M.ofO (f e cs) fun l => M.pure (.ag l)⟩
  | .bsl z cs len ps => match gT (lnL cs) ps with
    | ⟨f⟩ => ⟨fun _ e s k => f e (clT cs) fun t => newT (zc z true true) (lnL cs) t s fun id s => k (.sl id 0 len len) s⟩
  | .ld1 a => match gA a with
    | ⟨q0⟩ => ⟨fun _ e s k => ldF (q0 e) s k⟩
  | .ldn m a => match gA a with
    | ⟨q0⟩ => ⟨fun _ e s k => ldnF m (q0 e) s k⟩
  | .st m a v => match Nat.beq m 1 with
    | true => match gA a with
      | ⟨q0⟩ => match gA v with
        | ⟨q1⟩ => ⟨fun _ e s k => st1F (q0 e) (q1 e) s k⟩
    | false => match gA a with
      | ⟨q0⟩ => match gA v with
        | ⟨q1⟩ => ⟨fun _ e s k => stnF m (q0 e) (q1 e) s k⟩
  | .nilc x => match gA x with
    | ⟨q0⟩ => ⟨fun _ e s k => nilF (q0 e) s k⟩
  | .bin o x y => match gA x with
    | ⟨q0⟩ => match gA y with
      | ⟨q1⟩ => match dB o with
        | ⟨bv⟩ => ⟨fun _ e s k => bv (q0 e) (q1 e) s k⟩
  | .eq kd ng x y => match gA x with
    | ⟨q0⟩ => match gA y with
      | ⟨q1⟩ => ⟨fun _ e => eqN kd ng (q0 e) (q1 e)⟩
  | .un o x => match o with
    | .not => match gA x with
      | ⟨q0⟩ => ⟨fun _ e s k => notF (q0 e) s k⟩
    | o => match gA x with
      | ⟨q0⟩ => ⟨fun _ e => M.ofO (unF o (q0 e)) M.pure⟩
  | .cvi kk x => match gA x with
    | ⟨q0⟩ => ⟨fun _ e s k => cviF kk (q0 e) s k⟩
  | .cvs x => match gA x with
    | ⟨q0⟩ => ⟨fun _ e => cvsF (q0 e)⟩
  | .cvb x => match gA x with
    | ⟨q0⟩ => ⟨fun _ e => cvbF (q0 e)⟩
  | .cvt x => match gA x with
    | ⟨q0⟩ => ⟨fun _ e => cvtF (q0 e)⟩
  | .cvm x => match gA x with
    | ⟨q0⟩ => ⟨fun _ e => cvmF (q0 e)⟩
  | .mkf fn a b => match gL a with
    | ⟨q0⟩ => match gL b with
      | ⟨q1⟩ => ⟨fun _ e s k => k (.f fn (q0 e) (q1 e)) s⟩
  | .mks z cs l c => match gA l with
    | ⟨q0⟩ => match gA c with
      | ⟨q1⟩ => ⟨fun _ e => mksF z cs (q0 e) (q1 e)⟩
  | .sls w x lo hi mx => match gA x with
    | ⟨q0⟩ => match gO lo with
      | ⟨q1⟩ => match gO hi with
        | ⟨q2⟩ => match gO mx with
          | ⟨q3⟩ => ⟨fun _ e => M.ofO (slsF w (q0 e) (q1 e) (q2 e) (q3 e)) M.pure⟩
  | .sla w n x lo hi mx => match gA x with
    | ⟨q0⟩ => match gO lo with
      | ⟨q1⟩ => match gO hi with
        | ⟨q2⟩ => match gO mx with
          | ⟨q3⟩ => ⟨fun _ e => M.ofO (slaF w n (q0 e) (q1 e) (q2 e) (q3 e)) M.pure⟩
  | .slt x lo hi => match gA x with
    | ⟨q0⟩ => match gO lo with
      | ⟨q1⟩ => match gO hi with
        | ⟨q2⟩ => ⟨fun _ e => M.ofO (sltF (q0 e) (q1 e) (q2 e)) M.pure⟩
  | .fad off x => match gA x with
    | ⟨q0⟩ => ⟨fun _ e s k => fadF off (q0 e) s k⟩
  | .ixa n w x i => match gA x with
    | ⟨q0⟩ => match gA i with
      | ⟨q1⟩ => ⟨fun _ e s k => ixaF n w (q0 e) (q1 e) s k⟩
  | .ixs w x i => match gA x with
    | ⟨q0⟩ => match gA i with
      | ⟨q1⟩ => ⟨fun _ e s k => ixsF w (q0 e) (q1 e) s k⟩
  | .ext x j => match gA x with
    | ⟨q0⟩ => ⟨fun _ e s k => extK (dX j) (q0 e) s k⟩
  | .calv f l => match gA f with
    | ⟨q0⟩ => match gL l with
      | ⟨q1⟩ => ⟨fun F e s k => callF F (q0 e) (q1 e) s k⟩
  | .app z w s x => match gA s with
    | ⟨q0⟩ => match gA x with
      | ⟨q1⟩ => ⟨fun _ e => appF z w (q0 e) (q1 e)⟩
  | .apz z w cs s x => match gA s with
    | ⟨q0⟩ => match gA x with
      | ⟨q1⟩ => ⟨fun _ e => apzF z w cs (q0 e) (q1 e)⟩
  | .cpy w d x => match gA d with
    | ⟨q0⟩ => match gA x with
      | ⟨q1⟩ => ⟨fun _ e => cpyF w (q0 e) (q1 e)⟩
  | .clr cs d => match gA d with
    | ⟨q0⟩ => ⟨fun _ e => clrF cs (q0 e)⟩
  | .len x => match gA x with
    | ⟨q0⟩ => ⟨fun _ e s k => lenK (q0 e) s k⟩
  | .lns x => match gA x with
    | ⟨q0⟩ => ⟨fun _ e => M.ofO (lnsF (q0 e)) M.pure⟩
  | .cap x => match gA x with
    | ⟨q0⟩ => ⟨fun _ e => M.ofO (capF (q0 e)) M.pure⟩
  | .mm mx x l => match gA x with
    | ⟨q0⟩ => match gL l with
      | ⟨q1⟩ => ⟨fun _ e => M.ofO (mmF mx (q0 e) (q1 e)) M.pure⟩
  | .mkm => ⟨fun _ _ s k => mkmF s k⟩
  | .lkm q z ok x kk => match gA x with
    | ⟨q0⟩ => match gA kk with
      | ⟨q1⟩ => ⟨fun _ e s k => fo2 (q1 e) fun kk => lkF q z ok (q0 e) kk s k⟩
  | .mup q x kk v => match gA x with
    | ⟨q0⟩ => match gA kk with
      | ⟨q1⟩ => match gA v with
        | ⟨q2⟩ => ⟨fun _ e s k => fo2 (q1 e) fun kk => fo2 (q2 e) fun v => mupF q (q0 e) kk v s k⟩
  | .del q x kk => match gA x with
    | ⟨q0⟩ => match gA kk with
      | ⟨q1⟩ => ⟨fun _ e s k => fo2 (q1 e) fun kk => delF q (q0 e) kk s k⟩
  | .lnm x => match gA x with
    | ⟨q0⟩ => ⟨fun _ e => lnmF (q0 e)⟩
  | .men q z x kk => match gA x with
    | ⟨q0⟩ => match gA kk with
      | ⟨q1⟩ => ⟨fun _ e s k => fo2 (q1 e) fun kk => menF q z (q0 e) kk s k⟩
  | .mes x b v => match gA x with
    | ⟨q0⟩ => match gA b with
      | ⟨q1⟩ => match gA v with
        | ⟨q2⟩ => ⟨fun _ e s k => fo2 (q2 e) fun v => mesF (q0 e) (q1 e) v s k⟩
  | .fld off m ag x => match gA x with
    | ⟨q0⟩ => ⟨fun _ e s k => fldF off m ag (q0 e) s k⟩
  | .idx n w ag x i => match gA x with
    | ⟨q0⟩ => match gA i with
      | ⟨q1⟩ => ⟨fun _ e s k => idxF n w ag (q0 e) (q1 e) s k⟩
  | .ixt x i => match gA x with
    | ⟨q0⟩ => match gA i with
      | ⟨q1⟩ => ⟨fun _ e => ixtF (q0 e) (q1 e)⟩
  | .sap n x => match gA x with
    | ⟨q0⟩ => ⟨fun _ e => sapF n (q0 e)⟩
  | .bad => ⟨fun _ _ _ _ => false⟩
structure SV where
  v : Fn → E → St → (E → St → Bool) → Bool
noncomputable def pD (d : Option Nat) : Option P := match d with
  | none => some ⟨fun _ e k => k e⟩
  | some d => ptS d
noncomputable def dP (o : PO) (d : Option Nat) : SV := match pD d with
  | none => ⟨fun _ _ _ _ => false⟩
  | some ⟨p⟩ => match o with
    | .mv x => match gA x with
      | ⟨g⟩ => ⟨fun _ e s k => p (g e) e fun e => k e s⟩
    | o => match dO o with
      | ⟨f⟩ => ⟨fun F e s k => f F e s fun v s => p v e fun e => k e s⟩
noncomputable def dU (d : Option Nat) : SV := match pD d with
  | none => ⟨fun _ _ _ _ => false⟩
  | some ⟨p⟩ => ⟨fun F e s k => p und e fun e => k e s⟩

noncomputable def sel (x : AV) (a b u : SV) (F : Fn) (e : E) (s : St) (k : E → St → Bool) : Bool := AV.rec (motive_1 := fun _ => SV → SV → SV → Fn → E → St → (E → St → Bool) → Bool) (motive_2 := fun _ => Unit) (fun t a b _ F e s k => Bool.rec (motive := fun _ => SV → SV → Fn → E → St → (E → St → Bool) → Bool) (fun _ b F e s k => b.v F e s k) (fun a _ F e s k => a.v F e s k) t a b F e s k) (fun _ _ _ _ u F e s k => u.v F e s k) (fun _ _ _ u F e s k => u.v F e s k) (fun _ _ u F e s k => u.v F e s k) (fun _ _ _ _ u F e s k => u.v F e s k) (fun _ _ u F e s k => u.v F e s k) (fun _ _ _ _ _ _ u F e s k => u.v F e s k) (fun _ _ _ _ _ _ _ u F e s k => u.v F e s k) (fun _ _ u F e s k => u.v F e s k) (fun _ _ _ _ _ _ _ u F e s k => u.v F e s k) (fun _ _ u F e s k => u.v F e s k) (fun _ _ u F e s k => u.v F e s k) (fun _ _ _ u F e s k => u.v F e s k) (fun _ _ _ _ u F e s k => u.v F e s k) (fun _ _ _ _ u F e s k => u.v F e s k) () (fun _ _ _ _ => ()) x a b u F e s k
noncomputable def dS (o : PS) : SV := match o.g with
  | none => dP o.o o.d
  | some (n,want) => match want with
    | true => match gtS n with
      | ⟨g⟩ => ⟨fun F e s k => sel (g e) (dP o.o o.d) (dU o.d) (dU o.d) F e s k⟩
    | false => match gtS n with
      | ⟨g⟩ => ⟨fun F e s k => sel (g e) (dU o.d) (dP o.o o.d) (dU o.d) F e s k⟩
noncomputable def dOps (l : List PS) : SV := match l with
  | [] => ⟨fun _ e s k => k e s⟩
  | o :: l => match dS o with
    | ⟨f⟩ => match dOps l with
      | ⟨g⟩ => ⟨fun F e s k => f F e s fun e s => g F e s k⟩
def memP (o : PO) : Bool := match o with
  | .mv _ => false
  | .pick _ _ _ => false
  | .nilc _ => false
  | .bin _ _ _ => false
  | .un _ _ => false
  | .cvi _ _ => false
  | .mkf _ _ _ => false
  | .fad _ _ => false
  | .ixa _ _ _ _ => false
  | .ixs _ _ _ => false
  | .ext _ _ => false
  | .len _ => false
  | .build _ _ => false
  | .mm _ _ _ => false
  | .fld _ _ _ _ => false
  | .idx _ _ _ _ _ => false
  | .ixt _ _ => false
  | .sap _ _ => false
  | .bad => false
  | _ => true
structure AP where
  v : Fn → E → St → (E → List Rng → List Rng → St → Bool) → Bool
noncomputable def apQ (tr : Bool) (r w : List Rng) (e : E) (t : St) (k : E → List Rng → List Rng → St → Bool) : Bool := St.rec (motive := fun _ => Bool → List Rng → List Rng → E → (E → List Rng → List Rng → St → Bool) → Bool)
  (fun _ h n r' w' tr r w e k => Bool.rec (motive := fun _ => H6 → Id → List Rng → List Rng → List Rng → List Rng → E → (E → List Rng → List Rng → St → Bool) → Bool) (fun h n r' w' r w e k => k e r' w' ⟨false,h,n,r,w⟩) (fun h n r' w' r w e k => k e r' w' ⟨true,h,n,List.append r' r,List.append w' w⟩) tr h n r' w' r w e k) t tr r w e k
noncomputable def dAp (o : SV) : AP := match o with
  | ⟨o⟩ => ⟨fun F e s k => St.rec (motive := fun _ => (Fn → E → St → (E → St → Bool) → Bool) → Fn → E → (E → List Rng → List Rng → St → Bool) → Bool) (fun tr h n r w o F e k => o F e ⟨true,h,n,[],[]⟩ fun e' t => apQ tr r w e' t k) s o F e k⟩
noncomputable def hitQ (a b : Rng) : Bool := Bool.rec (motive := fun _ => Rng → Rng → Bool) (fun _ _ => false) (fun a b => Bool.rec (motive := fun _ => Rng → Rng → Bool) (fun _ _ => false) (fun a b => Nat.blt b.lo (Nat.add a.lo a.m)) (Nat.blt a.lo (Nat.add b.lo b.m)) a b) (Nat.beq (nmQ a.id) (nmQ b.id)) a b
noncomputable def anyQ (x : Rng) (l : List Rng) : Bool := List.rec (motive := fun _ => Rng → Bool) (fun _ => false) (fun y _ ih x => Bool.rec (motive := fun _ => (Rng → Bool) → Rng → Bool) (fun ih x => ih x) (fun _ _ => true) (hitQ x y) ih x) l x
noncomputable def hitR (a b : List Rng) : Bool := List.rec (motive := fun _ => List Rng → Bool) (fun _ => false) (fun x _ ih b => Bool.rec (motive := fun _ => (List Rng → Bool) → List Rng → Bool) (fun ih b => ih b) (fun _ _ => true) (anyQ x b) ih b) a b
noncomputable def hitsQ (a b : List Rng) : Bool := List.rec (motive := fun _ => List Rng → List Rng → Bool) (fun _ _ => false) (fun _ _ _ a b => hitR a b) b a b
noncomputable def clashQ (m : Nat) (b a : Ft) : Bool := match Nat.testBit m a.i with
  | true => false
  | false => hitsQ a.w b.w || (hitsQ a.w b.r || hitsQ a.r b.w)
structure DV where
  v : Fn → List Ft → E → St → (E → St → Bool) → Bool
noncomputable def dDrw (l : List PS) (ms : List Nat) (i mem : Nat) : DV := match l with
  | [] => ⟨fun _ _ e s k => k e s⟩
  | o :: l => match ms with
    | [] => ⟨fun _ _ _ _ _ => false⟩
    | m :: ms => match memP o.o with
      | false => match dS o with
        | ⟨f⟩ => match dDrw l ms (i + 1) mem with
          | ⟨g⟩ => ⟨fun F acc e s k => f F e s fun e s => g F acc e s k⟩
      | true => match dAp (dS o) with
        | ⟨f⟩ => match dDrw l ms (i + 1) (Nat.lor mem (Nat.shiftLeft 1 i)) with
          | ⟨g⟩ => match Nat.beq (Nat.land mem m) mem with
            | true => ⟨fun F acc e s k => f F e s fun e r w s => g F (⟨i,r,w⟩ :: acc) e s k⟩
            | false => ⟨fun F acc e s k => f F e s fun e r w s => Bool.rec (motive := fun _ => (Fn → List Ft → E → St → (E → St → Bool) → Bool) → Fn → List Ft → E → St → (E → St → Bool) → Bool) (fun g F acc e s k => g F acc e s k) (fun _ _ _ _ _ _ => false) (acc.any (clashQ m ⟨i,r,w⟩)) g F (⟨i,r,w⟩ :: acc) e s k⟩
structure G2 where
  g : E → List AV → AV
structure GL2 where
  g : E → List AV → List AV
structure GO2 where
  g : E → List AV → Option AV
structure FL2 where
  f : E → List AV → List AV → Option (List AV)
structure TL2 where
  f : E → List AV → Tr → (Tr → Bool) → Bool
structure OV2 where
  v : Fn → E → List AV → M AV
noncomputable def gA2 (A : Nat → G2) (x : Arg) : G2 := match x with
  | .t n => A n
  | .c v => ⟨fun _ _ => v⟩
noncomputable def gL2 (A : Nat → G2) (l : List Arg) : GL2 := match l with
  | [] => ⟨fun _ _ => []⟩
  | x :: l => match gA2 A x with
    | ⟨g⟩ => match gL2 A l with
      | ⟨gs⟩ => ⟨fun e yy => g e yy :: gs e yy⟩
noncomputable def gO2 (A : Nat → G2) (x : Option Arg) : GO2 := match x with
  | none => ⟨fun _ _ => none⟩
  | some x => match gA2 A x with
    | ⟨g⟩ => ⟨fun e yy => some (g e yy)⟩
noncomputable def gF2 (A : Nat → G2) (ps : List Part) : FL2 := match ps with
  | [] => ⟨fun _ _ cs => some cs⟩
  | p :: ps => ⟨fun e yy cs => match ((gA2 A p.x).g e yy).cells with
    | none => none
    | some l => match Nat.beq l.length p.m && Nat.ble (p.off + p.m) cs.length with
      | true => (gF2 A ps).f e yy (setL l cs p.off)
      | false => none⟩
noncomputable def gT2 (A : Nat → G2) (n : Nat) (ps : List Part) : TL2 := match ps with
  | [] => ⟨fun _ _ t k => k t⟩
  | p :: ps => match Nat.ble (p.off + p.m) n with
    | false => ⟨fun _ _ _ _ => false⟩
    | true => match Nat.beq p.m 1 with
      | true => match gA2 A p.x with
        | ⟨g⟩ => match gT2 A n ps with
          | ⟨f⟩ => ⟨fun e yy t k => cellsK p.m (g e yy) fun l => setT t p.off (hdL l) fun t => f e yy t k⟩
      | false => match gA2 A p.x with
        | ⟨g⟩ => match gT2 A n ps with
          | ⟨f⟩ => ⟨fun e yy t k => cellsK p.m (g e yy) fun l => putL l t p.off fun t => f e yy t k⟩
noncomputable def dO2 (A : Nat → G2) (o : PO) : OV2 := match o with
  | .mv x => match gA2 A x with
    | ⟨q0⟩ => ⟨fun _ e yy s k => k (q0 e yy) s⟩
  | .pick c a b => match gA2 A c with
    | ⟨q0⟩ => match gA2 A a with
      | ⟨q1⟩ => match gA2 A b with
        | ⟨q2⟩ => ⟨fun _ e yy s k => pickF (q0 e yy) (q1 e yy) (q2 e yy) s k⟩
  | .new z cs => ⟨fun _ _ _ s k => newK z (lnL cs) (clT cs) s k⟩
  | .box z x => match gA2 A x with
    | ⟨q0⟩ => ⟨fun _ e yy s k => boxF z (q0 e yy) s k⟩
  | .build cs ps => match gF2 A ps with
    | ⟨f⟩ => ⟨fun _ e yy => M.ofO (f e yy cs) fun l => M.pure (.ag l)⟩
  | .bsl z cs len ps => match gT2 A (lnL cs) ps with
    | ⟨f⟩ => ⟨fun _ e yy s k => f e yy (clT cs) fun t => newT (zc z true true) (lnL cs) t s fun id s => k (.sl id 0 len len) s⟩
  | .ld1 a => match gA2 A a with
    | ⟨q0⟩ => ⟨fun _ e yy s k => ldF (q0 e yy) s k⟩
  | .ldn m a => match gA2 A a with
    | ⟨q0⟩ => ⟨fun _ e yy s k => ldnF m (q0 e yy) s k⟩
  | .st m a v => match Nat.beq m 1 with
    | true => match gA2 A a with
      | ⟨q0⟩ => match gA2 A v with
        | ⟨q1⟩ => ⟨fun _ e yy s k => st1F (q0 e yy) (q1 e yy) s k⟩
    | false => match gA2 A a with
      | ⟨q0⟩ => match gA2 A v with
        | ⟨q1⟩ => ⟨fun _ e yy s k => stnF m (q0 e yy) (q1 e yy) s k⟩
  | .nilc x => match gA2 A x with
    | ⟨q0⟩ => ⟨fun _ e yy s k => nilF (q0 e yy) s k⟩
  | .bin o x y => match gA2 A x with
    | ⟨q0⟩ => match gA2 A y with
      | ⟨q1⟩ => match dB o with
        | ⟨bv⟩ => ⟨fun _ e yy s k => bv (q0 e yy) (q1 e yy) s k⟩
  | .eq kd ng x y => match gA2 A x with
    | ⟨q0⟩ => match gA2 A y with
      | ⟨q1⟩ => ⟨fun _ e yy => eqN kd ng (q0 e yy) (q1 e yy)⟩
  | .un o x => match o with
    | .not => match gA2 A x with
      | ⟨q0⟩ => ⟨fun _ e yy s k => notF (q0 e yy) s k⟩
    | o => match gA2 A x with
      | ⟨q0⟩ => ⟨fun _ e yy => M.ofO (unF o (q0 e yy)) M.pure⟩
  | .cvi kk x => match gA2 A x with
    | ⟨q0⟩ => ⟨fun _ e yy s k => cviF kk (q0 e yy) s k⟩
  | .cvs x => match gA2 A x with
    | ⟨q0⟩ => ⟨fun _ e yy => cvsF (q0 e yy)⟩
  | .cvb x => match gA2 A x with
    | ⟨q0⟩ => ⟨fun _ e yy => cvbF (q0 e yy)⟩
  | .cvt x => match gA2 A x with
    | ⟨q0⟩ => ⟨fun _ e yy => cvtF (q0 e yy)⟩
  | .cvm x => match gA2 A x with
    | ⟨q0⟩ => ⟨fun _ e yy => cvmF (q0 e yy)⟩
  | .mkf fn a b => match gL2 A a with
    | ⟨q0⟩ => match gL2 A b with
      | ⟨q1⟩ => ⟨fun _ e yy s k => k (.f fn (q0 e yy) (q1 e yy)) s⟩
  | .mks z cs l c => match gA2 A l with
    | ⟨q0⟩ => match gA2 A c with
      | ⟨q1⟩ => ⟨fun _ e yy => mksF z cs (q0 e yy) (q1 e yy)⟩
  | .sls w x lo hi mx => match gA2 A x with
    | ⟨q0⟩ => match gO2 A lo with
      | ⟨q1⟩ => match gO2 A hi with
        | ⟨q2⟩ => match gO2 A mx with
          | ⟨q3⟩ => ⟨fun _ e yy => M.ofO (slsF w (q0 e yy) (q1 e yy) (q2 e yy) (q3 e yy)) M.pure⟩
  | .sla w n x lo hi mx => match gA2 A x with
    | ⟨q0⟩ => match gO2 A lo with
      | ⟨q1⟩ => match gO2 A hi with
        | ⟨q2⟩ => match gO2 A mx with
          | ⟨q3⟩ => ⟨fun _ e yy => M.ofO (slaF w n (q0 e yy) (q1 e yy) (q2 e yy) (q3 e yy)) M.pure⟩
  | .slt x lo hi => match gA2 A x with
    | ⟨q0⟩ => match gO2 A lo with
      | ⟨q1⟩ => match gO2 A hi with
        | ⟨q2⟩ => ⟨fun _ e yy => M.ofO (sltF (q0 e yy) (q1 e yy) (q2 e yy)) M.pure⟩
  | .fad off x => match gA2 A x with
    | ⟨q0⟩ => ⟨fun _ e yy s k => fadF off (q0 e yy) s k⟩
  | .ixa n w x i => match gA2 A x with
    | ⟨q0⟩ => match gA2 A i with
      | ⟨q1⟩ => ⟨fun _ e yy s k => ixaF n w (q0 e yy) (q1 e yy) s k⟩
  | .ixs w x i => match gA2 A x with
    | ⟨q0⟩ => match gA2 A i with
      | ⟨q1⟩ => ⟨fun _ e yy s k => ixsF w (q0 e yy) (q1 e yy) s k⟩
  | .ext x j => match gA2 A x with
    | ⟨q0⟩ => ⟨fun _ e yy s k => extK (dX j) (q0 e yy) s k⟩
  | .calv f l => match gA2 A f with
    | ⟨q0⟩ => match gL2 A l with
      | ⟨q1⟩ => ⟨fun F e yy s k => callF F (q0 e yy) (q1 e yy) s k⟩
  | .app z w s x => match gA2 A s with
    | ⟨q0⟩ => match gA2 A x with
      | ⟨q1⟩ => ⟨fun _ e yy => appF z w (q0 e yy) (q1 e yy)⟩
  | .apz z w cs s x => match gA2 A s with
    | ⟨q0⟩ => match gA2 A x with
      | ⟨q1⟩ => ⟨fun _ e yy => apzF z w cs (q0 e yy) (q1 e yy)⟩
  | .cpy w d x => match gA2 A d with
    | ⟨q0⟩ => match gA2 A x with
      | ⟨q1⟩ => ⟨fun _ e yy => cpyF w (q0 e yy) (q1 e yy)⟩
  | .clr cs d => match gA2 A d with
    | ⟨q0⟩ => ⟨fun _ e yy => clrF cs (q0 e yy)⟩
  | .len x => match gA2 A x with
    | ⟨q0⟩ => ⟨fun _ e yy s k => lenK (q0 e yy) s k⟩
  | .lns x => match gA2 A x with
    | ⟨q0⟩ => ⟨fun _ e yy => M.ofO (lnsF (q0 e yy)) M.pure⟩
  | .cap x => match gA2 A x with
    | ⟨q0⟩ => ⟨fun _ e yy => M.ofO (capF (q0 e yy)) M.pure⟩
  | .mm mx x l => match gA2 A x with
    | ⟨q0⟩ => match gL2 A l with
      | ⟨q1⟩ => ⟨fun _ e yy => M.ofO (mmF mx (q0 e yy) (q1 e yy)) M.pure⟩
  | .mkm => ⟨fun _ _ _ s k => mkmF s k⟩
  | .lkm q z ok x kk => match gA2 A x with
    | ⟨q0⟩ => match gA2 A kk with
      | ⟨q1⟩ => ⟨fun _ e yy s k => fo2 (q1 e yy) fun kk => lkF q z ok (q0 e yy) kk s k⟩
  | .mup q x kk v => match gA2 A x with
    | ⟨q0⟩ => match gA2 A kk with
      | ⟨q1⟩ => match gA2 A v with
        | ⟨q2⟩ => ⟨fun _ e yy s k => fo2 (q1 e yy) fun kk => fo2 (q2 e yy) fun v => mupF q (q0 e yy) kk v s k⟩
  | .del q x kk => match gA2 A x with
    | ⟨q0⟩ => match gA2 A kk with
      | ⟨q1⟩ => ⟨fun _ e yy s k => fo2 (q1 e yy) fun kk => delF q (q0 e yy) kk s k⟩
  | .lnm x => match gA2 A x with
    | ⟨q0⟩ => ⟨fun _ e yy => lnmF (q0 e yy)⟩
  | .men q z x kk => match gA2 A x with
    | ⟨q0⟩ => match gA2 A kk with
      | ⟨q1⟩ => ⟨fun _ e yy s k => fo2 (q1 e yy) fun kk => menF q z (q0 e yy) kk s k⟩
  | .mes x b v => match gA2 A x with
    | ⟨q0⟩ => match gA2 A b with
      | ⟨q1⟩ => match gA2 A v with
        | ⟨q2⟩ => ⟨fun _ e yy s k => fo2 (q2 e yy) fun v => mesF (q0 e yy) (q1 e yy) v s k⟩
  | .fld off m ag x => match gA2 A x with
    | ⟨q0⟩ => ⟨fun _ e yy s k => fldF off m ag (q0 e yy) s k⟩
  | .idx n w ag x i => match gA2 A x with
    | ⟨q0⟩ => match gA2 A i with
      | ⟨q1⟩ => ⟨fun _ e yy s k => idxF n w ag (q0 e yy) (q1 e yy) s k⟩
  | .ixt x i => match gA2 A x with
    | ⟨q0⟩ => match gA2 A i with
      | ⟨q1⟩ => ⟨fun _ e yy => ixtF (q0 e yy) (q1 e yy)⟩
  | .sap n x => match gA2 A x with
    | ⟨q0⟩ => ⟨fun _ e yy => sapF n (q0 e yy)⟩
  | .bad => ⟨fun _ _ _ _ _ => false⟩

inductive LV where
  | st (j : Nat)
  | en (n : Nat)
  | co (v : AV)
structure Sg where
  n : Nat
  v : LV
noncomputable def findS (c : List Sg) (n : Nat) : Option LV := match c with
  | [] => none
  | x :: c => match Nat.beq x.n n with
    | true => some x.v
    | false => findS c n
structure SK where
  h : List AV → AV
noncomputable def stk (i : Nat) : SK := match i with
  | 0 => ⟨fun y => List.rec (motive := fun _ => AV) und (fun v _ _ => v) y⟩
  | i + 1 => match stk i with
    | ⟨h⟩ => ⟨fun y => h (List.rec (motive := fun _ => List AV) [] (fun _ y _ => y) y)⟩
noncomputable def gS (n : Nat) : G2 := match gtS n with
  | ⟨g⟩ => ⟨fun e _ => g e⟩
noncomputable def acS (c : List Sg) (k n : Nat) : G2 := match findS c n with
  | none => gS n
  | some (.st j) => match stk (k - 1 - j) with
    | ⟨h⟩ => ⟨fun _ y => h y⟩
  | some (.en m) => gS m
  | some (.co v) => ⟨fun _ _ => v⟩
noncomputable def okS (d : Nat) (c : List Sg) (n : Nat) : Bool := match Nat.testBit d n with
  | false => true
  | true => (findS c n).isSome
structure RV2 where
  v : Fn → E → List AV → St → (E → List AV → St → Bool) → Bool
def noR2 : RV2 := ⟨fun _ _ _ _ _ => false⟩
noncomputable def alS (w : Nat) (c : List Sg) (x : Arg) : Option LV := match x with
  | .c v => some (.co v)
  | .t n => match findS c n with
    | some v => some v
    | none => match Nat.testBit w n with
      | true => none
      | false => some (.en n)
def mvO (o : PO) : Option Arg := match o with
  | .mv x => some x
  | _ => none
noncomputable def alO (al : Bool) (w : Nat) (c : List Sg) (o : PO) : Option LV := match al with
  | false => none
  | true => match mvO o with
    | none => none
    | some x => alS w c x
noncomputable def onto (d w : Nat) (t : Nat) (f : Fn → E → List AV → M AV) : RV2 := match Nat.testBit d t with
  | true => ⟨fun F e y s c => f F e y s fun v s => c e (v :: y) s⟩
  | false => match Nat.testBit w t with
    | false => noR2
    | true => match ptS t with
      | none => noR2
      | some ⟨p⟩ => ⟨fun F e y s c => f F e y s fun v s => p v e fun e => c e y s⟩
noncomputable def dOne (al : Bool) (d w : Nat) (c : List Sg) (k : Nat) (o : PS) : RV2 := match o.d with
  | none => match dO2 (acS c k) o.o with
    | ⟨f⟩ => ⟨fun F e y s c => f F e y s fun _ s => c e y s⟩
  | some t => match Nat.testBit d t with
    | true => match alO al w c o.o with
      | some _ => ⟨fun _ e y s c => c e y s⟩
      | none => match dO2 (acS c k) o.o with
        | ⟨f⟩ => onto d w t f
    | false => match dO2 (acS c k) o.o with
      | ⟨f⟩ => onto d w t f
def undF (F : Fn) (e : E) (y : List AV) : M AV := fun s k => k und s
noncomputable def dNot (d w : Nat) (o : PS) : RV2 := match o.d with
  | none => ⟨fun _ e y s c => c e y s⟩
  | some t => onto d w t undF
noncomputable def nxC (al : Bool) (d w : Nat) (c : List Sg) (k : Nat) (o : PS) : List Sg := match o.d with
  | none => c
  | some t => match Nat.testBit d t with
    | false => c
    | true => match alO al w c o.o with
      | some v => ⟨t,v⟩ :: c
      | none => ⟨t,.st k⟩ :: c
noncomputable def nxK (al : Bool) (d w : Nat) (c : List Sg) (k : Nat) (o : PS) : Nat := match o.d with
  | none => k
  | some t => match Nat.testBit d t with
    | false => k
    | true => match alO al w c o.o with
      | some _ => k
      | none => k + 1
noncomputable def dGo (al : Bool) (d w : Nat) (c : List Sg) (k : Nat) (l : List PS) : RV2 := match l with
  | [] => ⟨fun _ e y s c => c e y s⟩
  | o :: l => match (tmpsP o.o).all (okS d c) with
    | false => noR2
    | true => match dOne al d w c k o with
      | ⟨f⟩ => match dGo al d w (nxC al d w c k o) (nxK al d w c k o) l with
        | ⟨g⟩ => ⟨fun F e y s c => f F e y s fun e y s => g F e y s c⟩
noncomputable def dSkip (d w : Nat) (l : List PS) : RV2 := match l with
  | [] => ⟨fun _ e y s c => c e y s⟩
  | o :: l => match dNot d w o with
    | ⟨f⟩ => match dSkip d w l with
      | ⟨g⟩ => ⟨fun F e y s c => f F e y s fun e y s => g F e y s c⟩
noncomputable def laC (al : Bool) (d w : Nat) (c : List Sg) (k : Nat) (l : List PS) : List Sg := match l with
  | [] => c
  | o :: l => laC al d w (nxC al d w c k o) (nxK al d w c k o) l
noncomputable def laK (al : Bool) (d w : Nat) (c : List Sg) (k : Nat) (l : List PS) : Nat := match l with
  | [] => k
  | o :: l => laK al d w (nxC al d w c k o) (nxK al d w c k o) l
abbrev R2 := Fn → E → List AV → St → (E → List AV → St → Bool) → Bool
noncomputable def sel2 (x : AV) (a b u : R2) (F : Fn) (e : E) (y : List AV) (s : St) (k : E → List AV → St → Bool) : Bool := AV.rec (motive_1 := fun _ => R2 → R2 → R2 → Fn → E → List AV → St → (E → List AV → St → Bool) → Bool) (motive_2 := fun _ => Unit) (fun t a b _ F e y s k => Bool.rec (motive := fun _ => R2 → R2 → Fn → E → List AV → St → (E → List AV → St → Bool) → Bool) (fun _ b F e y s k => b F e y s k) (fun a _ F e y s k => a F e y s k) t a b F e y s k) (fun _ _ _ _ u F e y s k => u F e y s k) (fun _ _ _ u F e y s k => u F e y s k) (fun _ _ u F e y s k => u F e y s k) (fun _ _ _ _ u F e y s k => u F e y s k) (fun _ _ u F e y s k => u F e y s k) (fun _ _ _ _ _ _ u F e y s k => u F e y s k) (fun _ _ _ _ _ _ _ u F e y s k => u F e y s k) (fun _ _ u F e y s k => u F e y s k) (fun _ _ _ _ _ _ _ u F e y s k => u F e y s k) (fun _ _ u F e y s k => u F e y s k) (fun _ _ u F e y s k => u F e y s k) (fun _ _ _ u F e y s k => u F e y s k) (fun _ _ _ _ u F e y s k => u F e y s k) (fun _ _ _ _ u F e y s k => u F e y s k) () (fun _ _ _ _ => ()) x a b u F e y s k
structure Gp where
  g : Option (Nat × Bool)
  l : List PS
def gEq (a b : Option (Nat × Bool)) : Bool := match a with
  | none => match b with
    | none => true
    | some _ => false
  | some x => match b with
    | none => false
    | some y => Nat.beq x.1 y.1 && (x.2 == y.2)
def grp (l : List PS) : List Gp := match l with
  | [] => []
  | o :: l => match grp l with
    | [] => [⟨o.g,[o]⟩]
    | p :: r => match gEq o.g p.g with
      | true => ⟨o.g,o :: p.l⟩ :: r
      | false => ⟨o.g,[o]⟩ :: p :: r
def noDst (n : Nat) (l : List PS) : Bool := l.all fun o => match o.d with
  | none => true
  | some t => !Nat.beq t n
noncomputable def dGp (d w : Nat) (c : List Sg) (k : Nat) (p : Gp) : RV2 := match p.g with
  | none => dGo true d w c k p.l
  | some nw => match okS d c nw.1 && noDst nw.1 p.l with
    | false => noR2
    | true => match acS c k nw.1 with
      | ⟨q⟩ => match dGo false d w c k p.l with
        | ⟨f⟩ => match dSkip d w p.l with
          | ⟨u⟩ => match nw.2 with
            | true => ⟨fun F e y s c => sel2 (q e y) f u u F e y s c⟩
            | false => ⟨fun F e y s c => sel2 (q e y) u f u F e y s c⟩
noncomputable def dGps (d w : Nat) (c : List Sg) (k : Nat) (l : List Gp) : RV2 := match l with
  | [] => ⟨fun _ e y s c => c e y s⟩
  | p :: l => match dGp d w c k p with
    | ⟨f⟩ => match dGps d w (laC p.g.isNone d w c k p.l) (laK p.g.isNone d w c k p.l) l with
      | ⟨g⟩ => ⟨fun F e y s c => f F e y s fun e y s => g F e y s c⟩
/- which slots are kept on the stack alone -/
def bitN (n : Nat) : Nat := Nat.shiftLeft 1 n
noncomputable def msk (l : List Nat) : Nat := List.rec (motive := fun _ => Nat) 0 (fun n _ m => Nat.lor (bitN n) m) l
def lessN (a b : Nat) : Nat := Nat.xor a (Nat.land a b)
noncomputable def mskD (d : Option Nat) : Nat := match d with
  | none => 0
  | some t => bitN t
structure Ms where
  w : Nat
  x : Nat
noncomputable def scan (l : List PS) (m : Ms) : Ms := match l with
  | [] => m
  | o :: l => scan l ⟨Nat.lor m.w (mskD o.d),Nat.lor m.x (lessN (msk (readsS o)) m.w)⟩
noncomputable def touch (l : List PS) : Nat := match l with
  | [] => 0
  | o :: l => Nat.lor (Nat.lor (msk (readsS o)) (mskD o.d)) (touch l)
noncomputable def dstM (l : List PS) : Nat := match l with
  | [] => 0
  | o :: l => Nat.lor (mskD o.d) (dstM l)
noncomputable def mC (c : PC) (m : Ms) : Ms := match c with
  | .skip => m
  | .ret => m
  | .exit _ => m
  | .seq a b => mC b (mC a m)
  | .cond x a b => mC b (mC a ⟨m.w,Nat.lor m.x (msk (tmpsA x))⟩)
  | .block _ b => mC b m
  | .loop b => mC b m
  | .reg ops => match scan ops ⟨0,m.x⟩ with
    | ⟨w,x⟩ => ⟨Nat.lor m.w w,x⟩
  | .drw ops _ => ⟨m.w,Nat.lor m.x (touch ops)⟩
def resN (l : List PR) : List Nat := match l with
  | [] => []
  | r :: l => (match r with
    | .t n => n
    | .c1 n => n
    | .cn _ n => n) :: resN l
noncomputable def keepD (b : PC) (r : List PR) : Nat := match mC b ⟨0,msk (resN r)⟩ with
  | ⟨w,x⟩ => lessN w x
def clr (d : Nat) (l : List Nat) : Bool := l.all fun n => !Nat.testBit d n
noncomputable def dReg (d : Nat) (ops : List PS) : SV := match dGps d (lessN (dstM ops) d) [] 0 (grp ops) with
  | ⟨f⟩ => ⟨fun F e s k => f F e [] s fun e _ s => k e s⟩
structure CV where
  v : Fn → E → St → (E → St → Bool) → (Ex → E → St → Bool) → Bool
noncomputable def itQ (n : Nat) (c : (Fn → E → St → (E → St → Bool) → (Ex → E → St → Bool) → Bool)) (F : Fn) (e : E) (s : St) (k : E → St → Bool) (x : Ex → E → St → Bool) : Bool := Nat.rec (motive := fun _ => (Fn → E → St → (E → St → Bool) → (Ex → E → St → Bool) → Bool) → Fn → E → St → (Ex → E → St → Bool) → Bool) (fun _ _ _ _ _ => false) (fun _ ih c F e s x => c F e s (fun e s => ih c F e s x) x) n c F e s x

noncomputable def cndQ (x : AV) (a b : CV) (F : Fn) (e : E) (s : St) (k : E → St → Bool) (ex : Ex → E → St → Bool) : Bool := AV.rec (motive_1 := fun _ => CV → CV → Fn → E → St → (E → St → Bool) → (Ex → E → St → Bool) → Bool) (motive_2 := fun _ => Unit) (fun t a b F e s k ex => Bool.rec (motive := fun _ => CV → CV → Fn → E → St → (E → St → Bool) → (Ex → E → St → Bool) → Bool) (fun _ b F e s k ex => b.v F e s k ex) (fun a _ F e s k ex => a.v F e s k ex) t a b F e s k ex) (fun _ _ _ _ _ _ _ _ _ => false) (fun _ _ _ _ _ _ _ _ => false) (fun _ _ _ _ _ _ _ => false) (fun _ _ _ _ _ _ _ _ _ => false) (fun _ _ _ _ _ _ _ => false) (fun _ _ _ _ _ _ _ _ _ _ _ => false) (fun _ _ _ _ _ _ _ _ _ _ _ _ => false) (fun _ _ _ _ _ _ _ => false) (fun _ _ _ _ _ _ _ _ _ _ _ _ => false) (fun _ _ _ _ _ _ _ => false) (fun _ _ _ _ _ _ _ => false) (fun _ _ _ _ _ _ _ _ => false) (fun _ _ _ _ _ _ _ _ _ => false) (fun _ _ _ _ _ _ _ _ _ => false) () (fun _ _ _ _ => ()) x a b F e s k ex
noncomputable def blQ (id : Nat) (ex : Ex) (e : E) (s : St) (k : E → St → Bool) (x : Ex → E → St → Bool) : Bool := Ex.rec (motive := fun _ => Nat → E → St → (E → St → Bool) → (Ex → E → St → Bool) → Bool) (fun _ e s _ x => x .ret e s)
  (fun j id e s k x => Bool.rec (motive := fun _ => Nat → E → St → (E → St → Bool) → (Ex → E → St → Bool) → Bool) (fun j e s _ x => x (.exit j) e s) (fun _ e s k _ => k e s) (Nat.beq j id) j e s k x) ex id e s k x
noncomputable def dC (d : Nat) (c : PC) : CV := match c with
  | .skip => ⟨fun _ e s k _ => k e s⟩
  | .ret => ⟨fun _ e s _ x => x .ret e s⟩
  | .exit id => ⟨fun _ e s _ x => x (.exit id) e s⟩
  | .seq a b => match dC d a with
    | ⟨f⟩ => match dC d b with
      | ⟨g⟩ => ⟨fun F e s k x => f F e s (fun e s => g F e s k x) x⟩
  | .cond c a b => match clr d (tmpsA c) with
    | false => ⟨fun _ _ _ _ _ => false⟩
    | true => match gA c with
      | ⟨q⟩ => ⟨fun F e s k x => cndQ (q e) (dC d a) (dC d b) F e s k x⟩
  | .block id b => match dC d b with
    | ⟨f⟩ => ⟨fun F e s k x => f F e s k fun ex e s => blQ id ex e s k x⟩
  | .loop b => match dC d b with
    | ⟨f⟩ => ⟨fun F e s k x => itQ rounds f F e s k x⟩
  | .reg ops => match dReg d ops with
    | ⟨f⟩ => ⟨fun F e s k _ => f F e s k⟩
  | .drw ops ms => match clr d (ops.flatMap readsS) with
    | false => ⟨fun _ _ _ _ _ => false⟩
    | true => match dDrw ops ms 0 0 with
      | ⟨f⟩ => ⟨fun F e s k _ => f F [] e s k⟩
structure RV where
  v : E → M (List AV)
noncomputable def dR (l : List PR) : RV := match l with
  | [] => ⟨fun _ s k => k [] s⟩
  | r :: l => match r with
    | .t n => match gtS n with
      | ⟨g⟩ => match dR l with
        | ⟨f⟩ => ⟨fun e s k => fo1 (g e) fun v => f e s fun vs s => k (v :: vs) s⟩
    | .c1 n => match gtS n with
      | ⟨g⟩ => match dR l with
        | ⟨f⟩ => ⟨fun e s k => ldF (g e) s fun v s => f e s fun vs s => k (v :: vs) s⟩
    | .cn m n => match gtS n with
      | ⟨g⟩ => match dR l with
        | ⟨f⟩ => ⟨fun e s k => ldnF m (g e) s fun v s => f e s fun vs s => k (v :: vs) s⟩
def e00 : E := ⟨l1,l2,l3⟩
noncomputable def argQ (l : List AV) (i : Nat) (e : E) (k : E → Bool) : Bool := match l with
  | [] => k e
  | v :: l => match ptS i with
    | none => false
    | some p => p.p v e fun e => argQ l (i + 1) e k
noncomputable def arg8 (l : List AV) (v0 v1 v2 v3 v4 v5 v6 v7 : AV) (k : E → Bool) : Bool := argQ l 8 ⟨⟨v0,v1,v2,v3,v4,v5,v6,v7⟩,l2,l3⟩ k
noncomputable def arg7 (l : List AV) (v0 v1 v2 v3 v4 v5 v6 : AV) (k : E → Bool) : Bool := List.rec (motive := fun _ => AV → AV → AV → AV → AV → AV → AV → (E → Bool) → Bool) (fun v0 v1 v2 v3 v4 v5 v6 k => k ⟨⟨v0,v1,v2,v3,v4,v5,v6,und⟩,l2,l3⟩) (fun v l _ v0 v1 v2 v3 v4 v5 v6 k => fo1 v fun v => arg8 l v0 v1 v2 v3 v4 v5 v6 v k) l v0 v1 v2 v3 v4 v5 v6 k
noncomputable def arg6 (l : List AV) (v0 v1 v2 v3 v4 v5 : AV) (k : E → Bool) : Bool := List.rec (motive := fun _ => AV → AV → AV → AV → AV → AV → (E → Bool) → Bool) (fun v0 v1 v2 v3 v4 v5 k => k ⟨⟨v0,v1,v2,v3,v4,v5,und,und⟩,l2,l3⟩) (fun v l _ v0 v1 v2 v3 v4 v5 k => fo1 v fun v => arg7 l v0 v1 v2 v3 v4 v5 v k) l v0 v1 v2 v3 v4 v5 k
noncomputable def arg5 (l : List AV) (v0 v1 v2 v3 v4 : AV) (k : E → Bool) : Bool := List.rec (motive := fun _ => AV → AV → AV → AV → AV → (E → Bool) → Bool) (fun v0 v1 v2 v3 v4 k => k ⟨⟨v0,v1,v2,v3,v4,und,und,und⟩,l2,l3⟩) (fun v l _ v0 v1 v2 v3 v4 k => fo1 v fun v => arg6 l v0 v1 v2 v3 v4 v k) l v0 v1 v2 v3 v4 k
noncomputable def arg4 (l : List AV) (v0 v1 v2 v3 : AV) (k : E → Bool) : Bool := List.rec (motive := fun _ => AV → AV → AV → AV → (E → Bool) → Bool) (fun v0 v1 v2 v3 k => k ⟨⟨v0,v1,v2,v3,und,und,und,und⟩,l2,l3⟩) (fun v l _ v0 v1 v2 v3 k => fo1 v fun v => arg5 l v0 v1 v2 v3 v k) l v0 v1 v2 v3 k
noncomputable def arg3 (l : List AV) (v0 v1 v2 : AV) (k : E → Bool) : Bool := List.rec (motive := fun _ => AV → AV → AV → (E → Bool) → Bool) (fun v0 v1 v2 k => k ⟨⟨v0,v1,v2,und,und,und,und,und⟩,l2,l3⟩) (fun v l _ v0 v1 v2 k => fo1 v fun v => arg4 l v0 v1 v2 v k) l v0 v1 v2 k
noncomputable def arg2 (l : List AV) (v0 v1 : AV) (k : E → Bool) : Bool := List.rec (motive := fun _ => AV → AV → (E → Bool) → Bool) (fun v0 v1 k => k ⟨⟨v0,v1,und,und,und,und,und,und⟩,l2,l3⟩) (fun v l _ v0 v1 k => fo1 v fun v => arg3 l v0 v1 v k) l v0 v1 k
noncomputable def arg1 (l : List AV) (v0 : AV) (k : E → Bool) : Bool := List.rec (motive := fun _ => AV → (E → Bool) → Bool) (fun v0 k => k ⟨⟨v0,und,und,und,und,und,und,und⟩,l2,l3⟩) (fun v l _ v0 k => fo1 v fun v => arg2 l v0 v k) l v0 k
noncomputable def arg0 (l : List AV) (k : E → Bool) : Bool := List.rec (motive := fun _ => (E → Bool) → Bool) (fun k => k ⟨⟨und,und,und,und,und,und,und,und⟩,l2,l3⟩) (fun v l _ k => fo1 v fun v => arg1 l v k) l k
structure WV where
  v : Fn → List AV → M AV
noncomputable def dW (own : Nat → List AV → M AV) (x : Option PF) : WV := match x with
  | none => ⟨fun _ _ _ _ => false⟩
  | some (.own k) => ⟨fun _ l => own k l⟩
  | some (.f body res) => match clr (keepD body res) (resN res) with
    | false => ⟨fun _ _ _ _ => false⟩
    | true => match dC (keepD body res) body with
      | ⟨c⟩ => match dR res with
        | ⟨r⟩ => ⟨fun F l s k => arg0 l fun e => c F e s (fun e s => r e s fun vs s => k (oneR vs) s) fun ex e s => Ex.rec (motive := fun _ => E → St → (AV → St → Bool) → Bool) (fun e s k => r e s fun vs s => k (oneR vs) s) (fun _ _ _ _ => false) ex e s k⟩
noncomputable def runQ (own : Nat → List AV → M AV) (X : Nat → Option PF) (n : Nat) : Fn := Nat.rec (motive := fun _ => Fn) ⟨fun _ _ _ _ => false⟩ (fun _ F => ⟨fun f l s k => (dW own (X f)).v F l s k⟩) n
def st0 : St := ⟨false,h6,Id.zero,[],[]⟩
def isT (v : AV) : Bool := match v with
  | .b x => x
  | _ => false
noncomputable def ask (own : Nat → List AV → M AV) (X : Nat → Option PF) (n f : Nat) : Bool := (runQ own X n).fn f [] st0 fun v _ => isT v
noncomputable def replB (vid : Id) (i j : Nat) (v : List AV) (s : AV) : M AV := match s with
  | .s0 => M.ifB (Nat.beq i 0 && Nat.beq j 0) (M.bind (new (zc false true false) v) fun id => M.pure (.so id 0 1 1 2))
  | .so id off n q w => M.ifB (((Nat.beq off 0 && Nat.ble 1 q) && Nat.beq w 2) && (Nat.ble i j && (Nat.ble j n && (Nat.ble n lim && !Nat.beq id.num vid.num)))) (M.bind (shared id) fun z => M.ifB (!z.s && z.b)
      (M.bind (rd id 0 (n * 2)) fun old => M.bind (over id 0 (i * 2) (v ++ old.drop (j * 2))) fun id =>
        M.pure (.so id 0 (i + 1 + (n - j)) (i + 1 + (n - j)) 2)))
  | _ => M.no
noncomputable def replV (s i j : AV) (v : AV) : M AV := match v with
  | .sl vid off n c => M.ifB (Nat.beq off 0 && (Nat.beq n 1 && Nat.beq c 1)) (M.ofO (nat64 i) fun i => M.ofO (nat64 j) fun j => M.bind (ends vid) fun zv => M.ifB ((!zv.1.s && Nat.beq zv.2 2) && (zv.1.b && zv.1.t)) (M.bind (rd vid 0 2) fun v => replB vid i j v s))
  | _ => M.no
noncomputable def replQ (_k : Nat) (l : List AV) : M AV := match l with
  | [s,i,j,v] => replV s i j v
  | _ => M.no
end Kq
end Ev
end Go.Proofs.YthknbcbkibbncaaGreat
