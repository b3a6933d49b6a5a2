/- DERIVED. An evaluator of closed calls, its plain text: what a program's operations do over memory whose blocks have names of their own; nothing of the model's world is named here. -/
import Derived.Calls
set_option linter.all false
set_option linter.unusedVariables false
namespace Go.Proofs.YthknbcbkibbncaaGreat
namespace Ev

inductive Dg where
  | d0
  | d1
  | d2
  | d3
  | d4
  | d5
  | d6
  | d7
def Dg.val (d : Dg) : Nat := match d with
  | .d0 => 0 | .d1 => 1 | .d2 => 2 | .d3 => 3 | .d4 => 4 | .d5 => 5 | .d6 => 6 | .d7 => 7
def Dg.inc (d : Dg) : Dg × Bool := match d with
  | .d0 => (.d1, false) | .d1 => (.d2, false) | .d2 => (.d3, false) | .d3 => (.d4, false) | .d4 => (.d5, false) | .d5 => (.d6, false) | .d6 => (.d7, false) | .d7 => (.d0, true)
structure Id where
  a : Dg
  b : Dg
  c : Dg
  d : Dg
  e : Dg
  f : Dg
def Id.num (i : Id) : Nat := ((((i.a.val * 8 + i.b.val) * 8 + i.c.val) * 8 + i.d.val) * 8 + i.e.val) * 8 + i.f.val
def Id.zero : Id := ⟨.d0, .d0, .d0, .d0, .d0, .d0⟩
def Id.inc (i : Id) : Option Id := match i.f.inc with
  | (f, false) => some ⟨i.a, i.b, i.c, i.d, i.e, f⟩
  | (f, true) => match i.e.inc with
    | (e, false) => some ⟨i.a, i.b, i.c, i.d, e, f⟩
    | (e, true) => match i.d.inc with
      | (d, false) => some ⟨i.a, i.b, i.c, d, e, f⟩
      | (d, true) => match i.c.inc with
        | (c, false) => some ⟨i.a, i.b, c, d, e, f⟩
        | (c, true) => match i.b.inc with
          | (b, false) => some ⟨i.a, b, c, d, e, f⟩
          | (b, true) => match i.a.inc with
            | (a, false) => some ⟨a, b, c, d, e, f⟩
            | (_, true) => none

inductive AV where
  | b (x : Bool)
  | i (k : IntKind) (x : Int)
  | s (x : List Nat)
  | p0
  | p (id : Id) (off : Nat)
  | s0
  | sl (id : Id) (off len cap : Nat)
  | so (id : Id) (off len k w : Nat)
  | f0
  | f (fn : Nat) (first cap : List AV)
  | i0
  | m0
  | m (id : Id)
  | ag (xs : List AV)
  | tu (xs : List AV)

def und : AV := .tu []
def AV.cells (v : AV) : Option (List AV) := match v with
  | .ag xs => some xs
  | .tu _ => none
  | .b x => some [.b x]
  | .i k x => some [.i k x]
  | .s x => some [.s x]
  | .p0 => some [.p0]
  | .p id off => some [.p id off]
  | .s0 => some [.s0]
  | .sl id off len cap => some [.sl id off len cap]
  | .so id off len k w => some [.so id off len k w]
  | .f0 => some [.f0]
  | .f fn x y => some [.f fn x y]
  | .i0 => some [.i0]
  | .m0 => some [.m0]
  | .m id => some [.m id]

structure Zf where
  s : Bool
  b : Bool
  t : Bool
  m : Option (List AV)
def zc (s b t : Bool) : Zf := ⟨s, b, t, none⟩
def zm (l : List AV) : Zf := ⟨false, true, true, some l⟩
def Zf.over (z : Zf) (lo : Nat) : Zf := zc z.s (z.b && Nat.beq lo 0) false
structure Blk where
  z : Zf
  c : List AV

structure Rng where
  id : Id
  lo : Nat
  m : Nat

structure S where
  tr : Bool
  h : Id → Option Blk
  n : Id
  r : List Rng
  w : List Rng

abbrev Heap := Id → Option Blk
noncomputable def Heap.put (h : Heap) (id : Id) (b : Option Blk) : Heap := fun j => if j.num = id.num then b else h j

def M (α : Type) : Type := S → Option (α × S)

namespace M
def pure {α : Type} (a : α) : M α := fun s => some (a, s)
def no {α : Type} : M α := fun _ => none
def bind {α β : Type} (m : M α) (f : α → M β) : M β := fun s => match m s with
  | none => none
  | some (a, t) => f a t
def ofO {α β : Type} (o : Option α) (f : α → M β) : M β := match o with
  | none => no
  | some a => f a
def ifB {β : Type} (b : Bool) (m : M β) : M β := match b with
  | true => m
  | false => no
def logR (s : S) (id : Id) (lo m : Nat) : S := match s.tr with
  | true => ⟨true, s.h, s.n, ⟨id, lo, m⟩ :: s.r, s.w⟩
  | false => s
def logW (s : S) (id : Id) (lo m : Nat) : S := match s.tr with
  | true => ⟨true, s.h, s.n, s.r, ⟨id, lo, m⟩ :: s.w⟩
  | false => s

def rd (id : Id) (lo m : Nat) : M (List AV) := match Nat.beq m 0 with
  | true => pure []
  | false => fun s => match s.h id with
    | none => none
    | some k => match Nat.ble (lo + m) k.c.length with
      | true => some ((k.c.drop lo).take m, logR s id lo m)
      | false => none
noncomputable def wr (id : Id) (lo : Nat) (l : List AV) : M Unit := match l.isEmpty with
  | true => pure ()
  | false => fun s => match s.h id with
    | none => none
    | some k => match Nat.ble (lo + l.length) k.c.length with
      | true => some ((), logW ⟨s.tr, Heap.put s.h id (some ⟨k.z, k.c.take lo ++ (l ++ k.c.drop (lo + l.length))⟩), s.n, s.r, s.w⟩ id lo l.length)
      | false => none
noncomputable def new (z : Zf) (l : List AV) : M Id := fun s => match s.n.inc with
  | none => none
  | some n => some (s.n, logW ⟨s.tr, Heap.put s.h s.n (some ⟨z, l⟩), n, s.r, s.w⟩ s.n 0 (l.length + 1))
noncomputable def over (id : Id) (lo m : Nat) (l : List AV) : M Id := fun s => match s.h id with
  | none => none
  | some k => match k.z.m.isNone && Nat.ble (lo + m) k.c.length with
    | false => none
    | true => match s.n.inc with
      | none => none
      | some n => some (s.n, logW (logW (logR ⟨s.tr, Heap.put (Heap.put s.h id none) s.n (some ⟨k.z.over lo, (k.c.drop lo).take m ++ l⟩), n, s.r, s.w⟩ id 0 (k.c.length + 1)) id 0 (k.c.length + 1)) s.n 0 (m + l.length + 1))
def shared (id : Id) : M Zf := fun s => match s.h id with
  | none => none
  | some k => match k.z.m with
    | some _ => none
    | none => some (k.z, logR s id k.c.length 1)
def ends (id : Id) : M (Zf × Nat) := fun s => match s.h id with
  | none => none
  | some k => match k.z.m with
    | some _ => none
    | none => some ((k.z, k.c.length), logR s id k.c.length 1)
def rdM (id : Id) : M (List AV) := fun s => match s.h id with
  | none => none
  | some k => match k.z.m with
    | none => none
    | some l => some (l, logR s id k.c.length 1)
noncomputable def wrM (id : Id) (l : List AV) : M Unit := fun s => match s.h id with
  | none => none
  | some k => match k.z.m with
    | none => none
    | some _ => some ((), logW (logR ⟨s.tr, Heap.put s.h id (some ⟨⟨k.z.s, k.z.b, k.z.t, some l⟩, k.c⟩), s.n, s.r, s.w⟩ id k.c.length 1) id k.c.length 1)
def apart {α : Type} (m : M α) : M (α × List Rng × List Rng) := fun s => match m ⟨true, s.h, s.n, [], []⟩ with
  | none => none
  | some (a, t) => match s.tr with
    | true => some ((a, t.r, t.w), ⟨true, t.h, t.n, t.r ++ s.r, t.w ++ s.w⟩)
    | false => some ((a, t.r, t.w), ⟨false, t.h, t.n, s.r, s.w⟩)
end M

def md (k : IntKind) : Nat := match k with
  | .i8 => 256 | .u8 => 256
  | .i16 => 65536 | .u16 => 65536
  | .i32 => 4294967296 | .u32 => 4294967296
  | .i64 => 18446744073709551616 | .u64 => 18446744073709551616
def sgn (k : IntKind) : Bool := match k with
  | .i8 => true | .u8 => false
  | .i16 => true | .u16 => false
  | .i32 => true | .u32 => false
  | .i64 => true | .u64 => false
def low (m : Nat) (x : Int) : Nat := match x with
  | .ofNat a => Nat.mod a m
  | .negSucc a => Nat.sub (Nat.sub m 1) (Nat.mod a m)
def wrapS (m : Nat) (a : Nat) : Int := match Nat.ble (Nat.div m 2) a with
  | true => .negSucc (Nat.sub (Nat.sub m 1) a)
  | false => .ofNat a
def wrapF (k : IntKind) (x : Int) : Int := match sgn k with
  | true => wrapS (md k) (low (md k) x)
  | false => .ofNat (low (md k) x)
def kix (k : IntKind) : Nat := match k with
  | .i8 => 0 | .i16 => 1 | .i32 => 2 | .i64 => 3 | .u8 => 4 | .u16 => 5 | .u32 => 6 | .u64 => 7
def keq (a b : IntKind) : Bool := Nat.beq (kix a) (kix b)
def ieq (x y : Int) : Bool := match x, y with
  | .ofNat a, .ofNat b => Nat.beq a b
  | .negSucc a, .negSucc b => Nat.beq a b
  | .ofNat _, .negSucc _ => false
  | .negSucc _, .ofNat _ => false
def ile (x y : Int) : Bool := match x, y with
  | .ofNat a, .ofNat b => Nat.ble a b
  | .negSucc a, .negSucc b => Nat.ble b a
  | .negSucc _, .ofNat _ => true
  | .ofNat _, .negSucc _ => false

inductive Arg where
  | t (n : Nat)
  | c (v : AV)

structure Part where
  off : Nat
  m : Nat
  x : Arg

inductive PO where
  | mv (x : Arg)
  | pick (c a b : Arg)
  | new (z : Bool) (cs : List AV)
  | box (z : Bool) (x : Arg)
  | build (cs : List AV) (ps : List Part)
  | bsl (z : Bool) (cs : List AV) (len : Nat) (ps : List Part)
  | ld1 (a : Arg)
  | ldn (m : Nat) (a : Arg)
  | st (m : Nat) (a v : Arg)
  | nilc (x : Arg)
  | bin (o : BinOp) (x y : Arg)
  | eq (kd : Nat) (ng : Bool) (x y : Arg)
  | un (o : UnOp) (x : Arg)
  | cvi (k : IntKind) (x : Arg)
  | cvs (x : Arg)
  | cvb (x : Arg)
  | cvt (x : Arg)
  | cvm (x : Arg)
  | mkf (fn : Nat) (first cap : List Arg)
  | mks (z : Bool) (cs : List AV) (l c : Arg)
  | sls (w : Nat) (x : Arg) (lo hi mx : Option Arg)
  | sla (w n : Nat) (x : Arg) (lo hi mx : Option Arg)
  | slt (x : Arg) (lo hi : Option Arg)
  | fad (off : Nat) (x : Arg)
  | ixa (n w : Nat) (x i : Arg)
  | ixs (w : Nat) (x i : Arg)
  | ext (x : Arg) (j : Nat)
  | calv (f : Arg) (args : List Arg)
  | app (z : Bool) (w : Nat) (s x : Arg)
  | apz (z : Bool) (w : Nat) (cs : List AV) (s x : Arg)
  | cpy (w : Nat) (d x : Arg)
  | clr (cs : List AV) (d : Arg)
  | len (x : Arg)
  | lns (x : Arg)
  | cap (x : Arg)
  | mm (mx : Bool) (x : Arg) (l : List Arg)
  | mkm
  | lkm (q : Option Nat) (z : AV) (ok : Bool) (x k : Arg)
  | mup (q : Option Nat) (x k v : Arg)
  | del (q : Option Nat) (x k : Arg)
  | lnm (x : Arg)
  | men (q : Option Nat) (z : AV) (x k : Arg)
  | mes (x b v : Arg)
  | fld (off m : Nat) (ag : Bool) (x : Arg)
  | idx (n w : Nat) (ag : Bool) (x i : Arg)
  | ixt (x i : Arg)
  | sap (n : Nat) (x : Arg)
  | bad

structure PS where
  g : Option (Nat × Bool)
  d : Option Nat
  o : PO

inductive PC where
  | skip
  | ret
  | exit (id : Nat)
  | seq (a b : PC)
  | cond (c : Arg) (a b : PC)
  | block (id : Nat) (b : PC)
  | loop (b : PC)
  | reg (ops : List PS)
  | drw (ops : List PS) (anc : List Nat)

inductive PR where
  | t (n : Nat)
  | c1 (n : Nat)
  | cn (m : Nat) (n : Nat)

inductive PF where
  | own (k : Nat)
  | f (body : PC) (res : List PR)

abbrev Env := Nat → AV
def arg (x : Arg) (e : Env) : AV := match x with
  | .t n => e n
  | .c v => v
def args (l : List Arg) (e : Env) : List AV := l.map fun x => arg x e
def argO (x : Option Arg) (e : Env) : Option AV := match x with
  | none => none
  | some x => some (arg x e)
noncomputable def putO (d : Option Nat) (v : AV) (e : Env) : Env := match d with
  | none => e
  | some d => fun j => if j = d then v else e j

def natOf (v : AV) : Option Nat := match v with
  | .i _ (.ofNat a) => some a
  | _ => none

def lim : Nat := 1048576

def setL (l : List AV) (cs : List AV) (k : Nat) : List AV := cs.take k ++ (l ++ cs.drop (k + l.length))
def fillL (e : Env) (ps : List Part) (cs : List AV) : Option (List AV) := match ps with
  | [] => some cs
  | p :: ps => match (arg p.x e).cells with
    | none => none
    | some l => match Nat.beq l.length p.m && Nat.ble (p.off + p.m) cs.length with
      | true => fillL e ps (setL l cs p.off)
      | false => none
def repL (l : List AV) (n : Nat) : List AV := match n with
  | 0 => []
  | m + 1 => l ++ repL l m

def bnd (x : Option AV) (d : Nat) (top : Nat) : Option Nat := match x with
  | none => some d
  | some v => match natOf v with
    | none => none
    | some a => match Nat.ble a top with
      | true => some a
      | false => none
def bnds (len cap : Nat) (lo hi mx : Option AV) : Option (Nat × Nat × Nat) := match bnd mx cap cap with
    | none => none
    | some m => match bnd hi len m with
      | none => none
      | some h => match bnd lo 0 h with
        | none => none
        | some l => match Nat.ble l h && Nat.ble h m with
          | true => some (l, h, m)
          | false => none
def offAt (off l m w : Nat) : Nat := match Nat.beq m l with
  | true => off
  | false => off + l * w
def slsF (w : Nat) (x : AV) (lo hi mx : Option AV) : Option AV := match x with
  | .s0 => match bnds 0 0 lo hi mx with
    | none => none
    | some _ => some .s0
  | .sl id off len cap => match bnds len cap lo hi mx with
    | some (l, h, m) => some (.sl id (offAt off l m w) (h - l) (m - l))
    | none => none
  | .so id off len k w' => match bnds len k lo hi mx with
    | some (l, h, m) => match Nat.beq w w' with
      | true => match mx with
        | some _ => match Nat.ble 1 k with
          | true => some (.sl id (offAt off l m w) (h - l) (m - l))
          | false => none
        | none => some (.so id (off + l * w) (h - l) (k - l) w)
      | false => none
    | none => none
  | _ => none
def slaF (w n : Nat) (x : AV) (lo hi mx : Option AV) : Option AV := match x with
  | .p id off => match bnds n n lo hi mx with
    | some (l, h, m) => some (.sl id (offAt off l m w) (h - l) (m - l))
    | none => none
  | _ => none
def sltF (x : AV) (lo hi : Option AV) : Option AV := match x with
  | .s b => match bnds b.length b.length lo hi none with
    | none => none
    | some (l, h, _) => some (.s ((b.drop l).take (h - l)))
  | _ => none

def lenO (v : AV) : Option Nat := match v with
  | .s0 => some 0
  | .sl _ _ n _ => some n
  | .so _ _ n _ _ => some n
  | .s b => some b.length
  | _ => none
def bytesL (b : List Nat) : List AV := b.map fun x => .i .u8 (.ofNat x)
def firstL (w n : Nat) (v : AV) : M (List AV) := match v with
  | .s0 => M.pure []
  | .sl id off _ _ => M.rd id off (n * w)
  | .so id off _ _ _ => M.rd id off (n * w)
  | .s b => M.ifB (Nat.beq w 1) (M.pure (bytesL (b.take n)))
  | _ => M.no

noncomputable def grow (z : Bool) (w : Nat) (s : AV) (n : Nat) (new : List AV) : M AV := match s with
  | .s0 => match Nat.beq n 0 with
    | true => M.pure .s0
    | false => M.bind (M.new (zc z true false) new) fun id => M.pure (.so id 0 n n w)
  | .sl id off len cap => match Nat.ble (len + n) cap with
    | true => M.bind (M.wr id (off + len * w) new) fun _ => M.pure (.sl id off (len + n) cap)
    | false => M.ifB (Nat.ble len lim) (M.bind (M.rd id off (len * w)) fun old => M.bind (M.new (zc z true false) (old ++ new)) fun id => M.pure (.so id 0 (len + n) (len + n) w))
  | .so id off len k w' => M.ifB (Nat.beq w w') (match Nat.ble (len + n) k with
    | true => M.bind (M.wr id (off + len * w) new) fun _ => M.pure (.so id off (len + n) k w)
    | false => M.ifB (Nat.ble len lim) (M.bind (M.over id off (len * w) new) fun id => M.pure (.so id 0 (len + n) (len + n) w)))
  | _ => M.no
noncomputable def appF (z : Bool) (w : Nat) (s x : AV) : M AV := M.ofO (lenO x) fun n => M.ifB (Nat.ble n lim) (M.bind (firstL w n x) fun new => grow z w s n new)
noncomputable def apzF (z : Bool) (w : Nat) (cs : List AV) (s x : AV) : M AV := M.ofO (natOf x) fun n => M.ifB (Nat.ble n lim) (grow z w s n (repL cs n))
def minN (a b : Nat) : Nat := match Nat.ble a b with
  | true => a
  | false => b
noncomputable def cpyF (w : Nat) (d x : AV) : M AV := M.ofO (lenO x) fun m => match d with
  | .s0 => M.pure (.i .i64 (.ofNat 0))
  | .sl id off len _ => M.bind (firstL w (minN m len) x) fun l => M.bind (M.wr id off l) fun _ => M.pure (.i .i64 (.ofNat (minN m len)))
  | .so id off len _ _ => M.bind (firstL w (minN m len) x) fun l => M.bind (M.wr id off l) fun _ => M.pure (.i .i64 (.ofNat (minN m len)))
  | _ => M.no
noncomputable def clrF (cs : List AV) (d : AV) : M AV := match d with
  | .s0 => M.pure (.tu [])
  | .sl id off len _ => M.bind (M.wr id off (repL cs len)) fun _ => M.pure (.tu [])
  | .so id off len _ _ => M.bind (M.wr id off (repL cs len)) fun _ => M.pure (.tu [])
  | _ => M.no

def lenF (x : AV) : Option AV := match x with
  | .s0 => some (.i .i64 (.ofNat 0))
  | .sl _ _ n _ => some (.i .i64 (.ofNat n))
  | .so _ _ n _ _ => some (.i .i64 (.ofNat n))
  | _ => none
def lnsF (x : AV) : Option AV := match x with
  | .s b => some (.i .i64 (.ofNat b.length))
  | _ => none
def capF (x : AV) : Option AV := match x with
  | .s0 => some (.i .i64 (.ofNat 0))
  | .sl _ _ _ n => some (.i .i64 (.ofNat n))
  | _ => none
def mm2 (mx : Bool) (a b : Int) : Int := match mx with
  | true => match ile b a with
    | true => a
    | false => b
  | false => match ile a b with
    | true => a
    | false => b
def mmF (mx : Bool) (x : AV) (l : List AV) : Option AV := match l with
  | [] => some x
  | y :: l => match x, y with
    | .i k a, .i _ b => mmF mx (.i k (mm2 mx a b)) l
    | _, _ => none

def ari (op : BinOp) (k : IntKind) (a b : Int) : Option AV := match op with
  | .add => some (.i k (wrapF k (Int.add a b)))
  | .sub => some (.i k (wrapF k (Int.sub a b)))
  | .mul => some (.i k (wrapF k (Int.mul a b)))
  | .quo => match ieq b 0 with
    | true => none
    | false => some (.i k (wrapF k (Int.tdiv a b)))
  | .rem => match ieq b 0 with
    | true => none
    | false => some (.i k (Int.tmod a b))
  | .and => match a, b with
    | .ofNat a, .ofNat b => match Nat.blt a (md k) && Nat.blt b (md k) with
      | true => some (.i k (wrapF k (.ofNat (Nat.land a b))))
      | false => none
    | _, _ => none
  | .or => match a, b with
    | .ofNat a, .ofNat b => match Nat.blt a (md k) && Nat.blt b (md k) with
      | true => some (.i k (wrapF k (.ofNat (Nat.lor a b))))
      | false => none
    | _, _ => none
  | .xor => match a, b with
    | .ofNat a, .ofNat b => match Nat.blt a (md k) && Nat.blt b (md k) with
      | true => some (.i k (wrapF k (.ofNat (Nat.xor a b))))
      | false => none
    | _, _ => none
  | .andNot => match a, b with
    | .ofNat a, .ofNat b => match Nat.blt a (md k) && Nat.blt b (md k) with
      | true => some (.i k (wrapF k (.ofNat (Nat.xor a (Nat.land a b)))))
      | false => none
    | _, _ => none
  | .eql => some (.b (ieq a b))
  | .neq => some (.b (!ieq a b))
  | .lss => some (.b (!ile b a))
  | .leq => some (.b (ile a b))
  | .gtr => some (.b (!ile a b))
  | .geq => some (.b (ile b a))
  | _ => none
def bts (k : IntKind) : Nat := match k with
  | .i8 => 8 | .u8 => 8
  | .i16 => 16 | .u16 => 16
  | .i32 => 32 | .u32 => 32
  | .i64 => 64 | .u64 => 64
def shl (k : IntKind) (a : Int) (b : Int) : Option AV := match b with
  | .negSucc _ => none
  | .ofNat b => some (.i k (wrapF k (Int.mul a (.ofNat (Nat.pow 2 (minN b (bts k)))))))
def shr (k : IntKind) (a : Int) (b : Int) : Option AV := match b with
  | .negSucc _ => none
  | .ofNat b => match a with
    | .negSucc _ => none
    | .ofNat a => some (.i k (.ofNat (Nat.div a (Nat.pow 2 (minN b (bts k))))))
def ceq (x y : AV) : Option Bool := match x, y with
  | .i k x, .i k' y => match keq k k' with
    | true => some (ieq x y)
    | false => none
  | _, _ => none
def ceqs (l m : List AV) : Option Bool := match l, m with
  | [], [] => some true
  | x :: xs, y :: ys => match ceq x y with
    | none => none
    | some b => match ceqs xs ys with
      | none => none
      | some c => some (b && c)
  | _, _ => none
def eqP (i : Id) (a : Nat) (j : Id) (b : Nat) : M Bool := match Nat.beq i.num j.num with
  | true => M.pure (Nat.beq a b)
  | false => M.bind (M.shared i) fun z => M.bind (M.shared j) fun z' => M.ifB (!(z.s || z'.s)) (M.pure false)
def eqB (x y : AV) : M Bool := match x with
  | .b x => match y with
    | .b y => M.pure (x == y)
    | _ => M.no
  | _ => M.no
def eqQ (x y : AV) : M Bool := match x with
  | .p0 => match y with
    | .p0 => M.pure true
    | .p _ _ => M.pure false
    | _ => M.no
  | .p i a => match y with
    | .p0 => M.pure false
    | .p j b => eqP i a j b
    | _ => M.no
  | _ => M.no
def eqS (x y : AV) : M Bool := match x with
  | .s0 => match y with
    | .s0 => M.pure true
    | .sl _ _ _ _ => M.pure false
    | .so _ _ _ _ _ => M.pure false
    | _ => M.no
  | .sl _ _ _ _ => match y with
    | .s0 => M.pure false
    | _ => M.no
  | .so _ _ _ _ _ => match y with
    | .s0 => M.pure false
    | _ => M.no
  | _ => M.no
def eqF (x y : AV) : M Bool := match x with
  | .f0 => match y with
    | .f0 => M.pure true
    | .f _ _ _ => M.pure false
    | _ => M.no
  | .f _ _ _ => match y with
    | .f0 => M.pure false
    | _ => M.no
  | _ => M.no
def eqG (m : Nat) (x y : AV) : M Bool := match x with
  | .ag xs => match y with
    | .ag ys => match Nat.beq xs.length m with
      | true => M.ofO (ceqs xs ys) M.pure
      | false => M.no
    | _ => M.no
  | _ => M.no
def eqK (kd : Nat) (x y : AV) : M Bool := match kd with
  | 0 => eqB x y
  | 1 => eqQ x y
  | 2 => eqS x y
  | 3 => eqF x y
  | m + 4 => eqG m x y
def eqN (kd : Nat) (ng : Bool) (x y : AV) : M AV := M.bind (eqK kd x y) fun r => M.pure (.b (ng != r))
def eqL (x y : List Nat) : Bool := match x, y with
  | [], [] => true
  | a :: x, b :: y => match Nat.beq a b with
    | true => eqL x y
    | false => false
  | _, _ => false
def strF (o : BinOp) (x : List Nat) (y : AV) : M AV := match y with
  | .s y => match o with
    | .eql => M.pure (.b (eqL x y))
    | .neq => M.pure (.b (!eqL x y))
    | .add => M.ifB (Nat.ble (x.length + y.length) lim) (M.pure (.s (x ++ y)))
    | _ => M.no
  | _ => M.no
def intF (o : BinOp) (k : IntKind) (a : Int) (k' : IntKind) (b : Int) : M AV := match o with
  | .shl => M.ofO (shl k a b) M.pure
  | .shr => M.ofO (shr k a b) M.pure
  | o => M.ifB (keq k k') (M.ofO (ari o k a b) M.pure)
def binF (o : BinOp) (x y : AV) : M AV := match x with
  | .i k a => match y with
    | .i k' b => intF o k a k' b
    | _ => M.no
  | .s x => strF o x y
  | _ => M.no
def unF (o : UnOp) (x : AV) : Option AV := match o with
  | .not => match x with
    | .b x => some (.b (!x))
    | _ => none
  | .neg => match x with
    | .i k x => some (.i k (wrapF k (Int.sub 0 x)))
    | _ => none
  | _ => none

def bytesOf (l : List AV) : Option (List Nat) := match l with
  | [] => some []
  | v :: l => match v with
    | .i .u8 (.ofNat a) => match Nat.blt a 256 with
      | true => match bytesOf l with
        | some r => some (a :: r)
        | none => none
      | false => none
    | _ => none
def cvtL (l : List AV) : M AV := M.ofO (bytesOf l) fun bs => M.pure (.s bs)
def cvtF (x : AV) : M AV := match x with
  | .s0 => M.pure (.s [])
  | .sl id off len _ => M.bind (M.rd id off len) cvtL
  | .so id off len _ _ => M.bind (M.rd id off len) cvtL
  | _ => M.no
def cvmF (x : AV) : M AV := match x with
  | .sl id a b c => M.bind (M.shared id) fun z => M.ifB z.s (M.pure (.sl id a b c))
  | .so id a b c d => M.bind (M.shared id) fun z => M.ifB z.s (M.pure (.so id a b c d))
  | _ => M.no
noncomputable def cvbF (x : AV) : M AV := match x with
  | .s b => M.ifB (Nat.ble b.length lim) (M.bind (M.new (zc true true false) (bytesL b)) fun id => M.pure (.so id 0 b.length b.length 1))
  | _ => M.no
noncomputable def mksF (z : Bool) (cs : List AV) (l c : AV) : M AV := M.ofO (natOf l) fun l => M.ofO (natOf c) fun c =>
  M.ifB (Nat.ble l c && Nat.ble c lim) (M.bind (M.new (zc z true true) (repL cs c)) fun id => M.pure (.sl id 0 l c))
def ixaF (n w : Nat) (x i : AV) : M AV := M.ofO (natOf i) fun a => match x with
  | .p id off => M.ifB (Nat.blt a n) (M.pure (.p id (Nat.add off (Nat.mul a w))))
  | _ => M.no
def ixsF (w : Nat) (x i : AV) : M AV := M.ofO (natOf i) fun a => match x with
  | .sl id off len cap => M.ifB (Nat.blt a len) (M.pure (.p id (Nat.add off (Nat.mul a w))))
  | .so id off len k _ => M.ifB (Nat.blt a len) (M.pure (.p id (Nat.add off (Nat.mul a w))))
  | _ => M.no
def ldF (x : AV) : M AV := match x with
  | .p id off => M.bind (M.rd id off 1) fun l => match l with
    | [v] => M.pure v
    | _ => M.no
  | _ => M.no
def ldnF (m : Nat) (x : AV) : M AV := match x with
  | .p id off => M.bind (M.rd id off m) fun l => M.pure (.ag l)
  | _ => M.no
noncomputable def stF (m : Nat) (a v : AV) : M AV := match a with
  | .p id off => M.ofO v.cells fun l => M.ifB (Nat.beq l.length m) (M.bind (M.wr id off l) fun _ => M.pure und)
  | _ => M.no
def fadF (off : Nat) (x : AV) : M AV := match x with
  | .p id o => M.pure (.p id (Nat.add o off))
  | _ => M.no
/- maps -/
def keyEq (x y : AV) : Option Bool := match x with
  | .ag xs => match y with
    | .ag ys => ceqs xs ys
    | _ => none
  | .s xs => match y with
    | .s ys => some (eqL xs ys)
    | _ => none
  | x => ceq x y
def keyOk (q : Option Nat) (k : AV) : Bool := match q with
  | none => match k with
    | .i _ _ => true
    | _ => false
  | some n => match n with
    | 0 => match k with
      | .s _ => true
      | _ => false
    | n + 1 => match k with
      | .ag xs => Nat.beq xs.length (n + 1)
      | _ => false
structure Ent where
  i : Nat
  v : AV
  b : AV
def findM (k : AV) (l : List AV) (i : Nat) : Option (Option Ent) := match l with
  | [] => some none
  | a :: l => match l with
    | [] => none
    | v :: l => match l with
      | [] => none
      | b :: l => match keyEq k a with
        | none => none
        | some true => some (some ⟨i, v, b⟩)
        | some false => findM k l (i + 1)
def lkR (ok : Bool) (v : AV) (b : Bool) : AV := match ok with
  | true => .tu [v, .b b]
  | false => v
def mapL (l : List AV) : Option (Nat × List AV) := match l with
  | [] => none
  | c :: l => match c with
    | .i _ (.ofNat n) => some (n, l)
    | _ => none
def clk (n : Nat) (l : List AV) : List AV := .i .i64 (.ofNat n) :: l
def lkF (q : Option Nat) (z : AV) (ok : Bool) (x k : AV) : M AV := M.ifB (keyOk q k) (match x with
  | .m0 => M.pure (lkR ok z false)
  | .m id => M.bind (M.rdM id) fun l => M.ofO (mapL l) fun nl => M.ofO (findM k nl.2 0) fun r => match r with
    | some e => M.pure (lkR ok e.v true)
    | none => M.pure (lkR ok z false)
  | _ => M.no)
def setAt (l : List AV) (i : Nat) (k v b : AV) : List AV := l.take (i * 3) ++ (k :: v :: b :: l.drop (i * 3 + 3))
def cutAt (l : List AV) (i : Nat) : List AV := l.take (i * 3) ++ l.drop (i * 3 + 3)
noncomputable def mupF (q : Option Nat) (x k v : AV) : M AV := M.ifB (keyOk q k) (match x with
  | .m id => M.bind (M.rdM id) fun l => M.ofO (mapL l) fun nl => M.ofO (findM k nl.2 0) fun r => M.bind (M.wrM id (match r with
    | some e => clk nl.1 (setAt nl.2 e.i k v e.b)
    | none => clk (nl.1 + 1) (nl.2 ++ [k, v, .i .i64 (.ofNat nl.1)]))) fun _ => M.pure und
  | _ => M.no)
noncomputable def menF (q : Option Nat) (z : AV) (x k : AV) : M AV := M.ifB (keyOk q k) (match x with
  | .m id => M.bind (M.rdM id) fun l => M.ofO (mapL l) fun nl => M.ofO (findM k nl.2 0) fun r => match r with
    | some e => M.bind (M.wrM id (clk nl.1 (setAt nl.2 e.i k e.v e.b))) fun _ => M.pure (.tu [e.v, e.b])
    | none => M.bind (M.wrM id (clk (nl.1 + 1) (nl.2 ++ [k, z, .i .i64 (.ofNat nl.1)]))) fun _ => M.pure (.tu [z, .i .i64 (.ofNat nl.1)])
  | _ => M.no)
def stampM (b : AV) (l : List AV) (i : Nat) : Option (Nat × AV) := match l with
  | [] => none
  | a :: l => match l with
    | [] => none
    | _ :: l => match l with
      | [] => none
      | c :: l => match ceq b c with
        | some true => some (i, a)
        | some false => stampM b l (i + 1)
        | none => none
noncomputable def mesF (x b v : AV) : M AV := match x with
  | .m id => M.bind (M.rdM id) fun l => M.ofO (mapL l) fun nl => M.ofO (stampM b nl.2 0) fun r => M.bind (M.wrM id (clk nl.1 (setAt nl.2 r.1 r.2 v b))) fun _ => M.pure und
  | _ => M.no
noncomputable def delF (q : Option Nat) (x k : AV) : M AV := M.ifB (keyOk q k) (match x with
  | .m0 => M.pure (.tu [])
  | .m id => M.bind (M.rdM id) fun l => M.ofO (mapL l) fun nl => M.ofO (findM k nl.2 0) fun r => match r with
    | some e => M.bind (M.wrM id (clk nl.1 (cutAt nl.2 e.i))) fun _ => M.pure (.tu [])
    | none => M.pure (.tu [])
  | _ => M.no)
def lnmF (x : AV) : M AV := match x with
  | .m0 => M.pure (.i .i64 (.ofNat 0))
  | .m id => M.bind (M.rdM id) fun l => M.ofO (mapL l) fun nl => M.pure (.i .i64 (.ofNat (nl.2.length / 3)))
  | _ => M.no
/- parts of values -/
def fldF (off m : Nat) (ag : Bool) (x : AV) : M AV := match x with
  | .ag xs => match Nat.ble (off + m) xs.length with
    | false => M.no
    | true => match ag with
      | true => M.pure (.ag ((xs.drop off).take m))
      | false => M.ofO xs[off]? M.pure
  | _ => M.no
def idxF (n w : Nat) (ag : Bool) (x i : AV) : M AV := M.ofO (natOf i) fun a => M.ifB (Nat.blt a n) (fldF (a * w) w ag x)
def ixtF (x i : AV) : M AV := M.ofO (natOf i) fun a => match x with
  | .s b => M.ofO b[a]? fun c => M.pure (.i .u8 (.ofNat c))
  | _ => M.no
def sapF (n : Nat) (x : AV) : M AV := match x with
  | .sl id off len _ => M.ifB (Nat.ble n len && Nat.ble 1 n) (M.pure (.p id off))
  | .so id off len _ _ => M.ifB (Nat.ble n len && Nat.ble 1 n) (M.pure (.p id off))
  | _ => M.no
noncomputable def mkmF : M AV := M.bind (M.new (zm (clk 0 [])) []) fun id => M.pure (.m id)
def nilF (x : AV) : M AV := match x with
  | .p id off => M.pure (.p id off)
  | .f fn a b => M.pure (.f fn a b)
  | _ => M.no
def extF (x : AV) (j : Nat) : M AV := match x with
  | .tu vs => M.ofO vs[j]? M.pure
  | _ => M.no
def pickF (c a b : AV) : M AV := match c with
  | .b t => match t with
    | true => M.pure a
    | false => M.pure b
  | _ => M.no
def cviF (k : IntKind) (x : AV) : M AV := match x with
  | .i _ a => M.pure (.i k (wrapF k a))
  | _ => M.no
def cvsF (x : AV) : M AV := match x with
  | .s b => M.pure (.s b)
  | _ => M.no
noncomputable def newF (z : Bool) (l : List AV) : M AV := M.bind (M.new (zc z true true) l) fun id => M.pure (.p id 0)
noncomputable def bslF (z : Bool) (len : Nat) (l : List AV) : M AV := M.bind (M.new (zc z true true) l) fun id => M.pure (.sl id 0 len len)

inductive Ex where
  | ret
  | exit (id : Nat)

structure Fns where
  fn : Nat → List AV → M AV

def callF (F : Fns) (f : AV) (l : List AV) : M AV := match f with
  | .f fn first cap => F.fn fn (first ++ (l ++ cap))
  | _ => M.no

noncomputable def poR (o : PO) (F : Fns) (e : Env) : M AV := match o with
  | .mv x => M.pure (arg x e)
  | .pick c a b => pickF (arg c e) (arg a e) (arg b e)
  | .new z cs => newF z cs
  | .box z x => M.ofO (arg x e).cells fun l => newF z l
  | .build cs ps => M.ofO (fillL e ps cs) fun l => M.pure (.ag l)
  | .bsl z cs len ps => M.ofO (fillL e ps cs) fun l => bslF z len l
  | .ld1 a => ldF (arg a e)
  | .ldn m a => ldnF m (arg a e)
  | .st m a v => stF m (arg a e) (arg v e)
  | .nilc x => nilF (arg x e)
  | .bin o x y => binF o (arg x e) (arg y e)
  | .eq kd ng x y => eqN kd ng (arg x e) (arg y e)
  | .un o x => M.ofO (unF o (arg x e)) M.pure
  | .cvi k x => cviF k (arg x e)
  | .cvs x => cvsF (arg x e)
  | .cvb x => cvbF (arg x e)
  | .cvt x => cvtF (arg x e)
  | .cvm x => cvmF (arg x e)
  | .mkf fn a b => M.pure (.f fn (args a e) (args b e))
  | .mks z cs l c => mksF z cs (arg l e) (arg c e)
  | .sls w x lo hi mx => M.ofO (slsF w (arg x e) (argO lo e) (argO hi e) (argO mx e)) M.pure
  | .sla w n x lo hi mx => M.ofO (slaF w n (arg x e) (argO lo e) (argO hi e) (argO mx e)) M.pure
  | .slt x lo hi => M.ofO (sltF (arg x e) (argO lo e) (argO hi e)) M.pure
  | .fad off x => fadF off (arg x e)
  | .ixa n w x i => ixaF n w (arg x e) (arg i e)
  | .ixs w x i => ixsF w (arg x e) (arg i e)
  | .ext x j => extF (arg x e) j
  | .calv f l => callF F (arg f e) (args l e)
  | .app z w s x => appF z w (arg s e) (arg x e)
  | .apz z w cs s x => apzF z w cs (arg s e) (arg x e)
  | .cpy w d x => cpyF w (arg d e) (arg x e)
  | .clr cs d => clrF cs (arg d e)
  | .len x => M.ofO (lenF (arg x e)) M.pure
  | .lns x => M.ofO (lnsF (arg x e)) M.pure
  | .cap x => M.ofO (capF (arg x e)) M.pure
  | .mm mx x l => M.ofO (mmF mx (arg x e) (args l e)) M.pure
  | .mkm => mkmF
  | .lkm q z ok x k => lkF q z ok (arg x e) (arg k e)
  | .mup q x k v => mupF q (arg x e) (arg k e) (arg v e)
  | .del q x k => delF q (arg x e) (arg k e)
  | .lnm x => lnmF (arg x e)
  | .men q z x k => menF q z (arg x e) (arg k e)
  | .mes x b v => mesF (arg x e) (arg b e) (arg v e)
  | .fld off m ag x => fldF off m ag (arg x e)
  | .idx n w ag x i => idxF n w ag (arg x e) (arg i e)
  | .ixt x i => ixtF (arg x e) (arg i e)
  | .sap n x => sapF n (arg x e)
  | .bad => M.no

def wanted (g : Option (Nat × Bool)) (e : Env) : Bool := match g with
  | none => true
  | some (n, want) => match e n with
    | .b t => match t with
      | true => want
      | false => !want
    | _ => false
noncomputable def psV (o : PS) (F : Fns) (e : Env) : M AV := match wanted o.g e with
  | true => poR o.o F e
  | false => M.pure und
noncomputable def psR (o : PS) (F : Fns) (e : Env) : M Env := M.bind (psV o F e) fun v => M.pure (putO o.d v e)

def hit (a b : Rng) : Bool := Nat.beq a.id.num b.id.num && (Nat.blt a.lo (b.lo + b.m) && Nat.blt b.lo (a.lo + a.m))
def hits (a b : List Rng) : Bool := a.any fun x => b.any fun y => hit x y
structure Ft where
  i : Nat
  r : List Rng
  w : List Rng
def clash (m : Nat) (b a : Ft) : Bool := match Nat.testBit m a.i with
  | true => false
  | false => hits a.w b.w || (hits a.w b.r || hits a.r b.w)
noncomputable def opsR (F : Fns) (ops : List PS) (e : Env) : M Env := match ops with
  | [] => M.pure e
  | o :: l => M.bind (psR o F e) fun e => opsR F l e
noncomputable def drwR (F : Fns) (ops : List PS) (ms : List Nat) (acc : List Ft) (i : Nat) (e : Env) : M Env := match ops with
  | [] => M.pure e
  | o :: l => match ms with
    | [] => M.no
    | m :: ms => M.bind (M.apart (psR o F e)) fun x => match acc.any (clash m ⟨i, x.2.1, x.2.2⟩) with
      | true => M.no
      | false => drwR F l ms (⟨i, x.2.1, x.2.2⟩ :: acc) (i + 1) x.1
def rounds : Nat := 1000000
def iter (n : Nat) (b : Env → M (Option Ex × Env)) (e : Env) : M (Option Ex × Env) := match n with
  | 0 => M.no
  | n + 1 => M.bind (b e) fun x => match x.1 with
    | none => iter n b x.2
    | some ex => M.pure (some ex, x.2)
noncomputable def coR (F : Fns) (c : PC) (e : Env) : M (Option Ex × Env) := match c with
  | .skip => M.pure (none, e)
  | .ret => M.pure (some .ret, e)
  | .exit id => M.pure (some (.exit id), e)
  | .seq a b => M.bind (coR F a e) fun x => match x.1 with
    | none => coR F b x.2
    | some ex => M.pure (some ex, x.2)
  | .cond c a b => match arg c e with
    | .b t => match t with
      | true => coR F a e
      | false => coR F b e
    | _ => M.no
  | .block id b => M.bind (coR F b e) fun x => match x.1 with
    | none => M.pure (none, x.2)
    | some .ret => M.pure (some .ret, x.2)
    | some (.exit j) => match Nat.beq j id with
      | true => M.pure (none, x.2)
      | false => M.pure (some (.exit j), x.2)
  | .loop b => iter rounds (fun e => coR F b e) e
  | .reg ops => M.bind (opsR F ops e) fun e => M.pure (none, e)
  | .drw ops ms => M.bind (drwR F ops ms [] 0 e) fun e => M.pure (none, e)
def resL (e : Env) (l : List PR) : M (List AV) := match l with
  | [] => M.pure []
  | r :: l => match r with
    | .t n => M.bind (resL e l) fun vs => M.pure (e n :: vs)
    | .c1 n => M.bind (ldF (e n)) fun v => M.bind (resL e l) fun vs => M.pure (v :: vs)
    | .cn m n => M.bind (ldnF m (e n)) fun v => M.bind (resL e l) fun vs => M.pure (v :: vs)
def oneR (vs : List AV) : AV := match vs with
  | [v] => v
  | vs => .tu vs
def argE (l : List AV) : Env := fun n => match l[n]? with
  | some v => v
  | none => und
noncomputable def walkR (F : Fns) (body : PC) (res : List PR) (l : List AV) : M AV := M.bind (coR F body (argE l)) fun x => match x.1 with
  | some (.exit _) => M.no
  | _ => M.bind (resL x.2 res) fun vs => M.pure (oneR vs)
noncomputable def fnR (own : Nat → List AV → M AV) (X : Nat → Option PF) (F : Fns) (f : Nat) (l : List AV) : M AV := match X f with
  | none => M.no
  | some (.own k) => own k l
  | some (.f body res) => walkR F body res l
noncomputable def run (own : Nat → List AV → M AV) (X : Nat → Option PF) (n : Nat) : Fns := match n with
  | 0 => ⟨fun _ _ => M.no⟩
  | n + 1 => ⟨fun f l => fnR own X (run own X n) f l⟩
end Ev
end Go.Proofs.YthknbcbkibbncaaGreat

/- DERIVED. The evaluator's code, made of the program's: types looked up, slots bounded, in drawn regions the order's own waits. -/
set_option linter.unusedVariables false
namespace Go.Proofs.YthknbcbkibbncaaGreat
namespace Ev

structure Ty where
  t : TypeId → Option TypeInfo
  q : TypeId → Bool
def descT (Y : Ty) (i : TypeInfo) : Option TypeDesc := match i.desc with
  | .named _ u => (Y.t u).bind fun j => some j.desc
  | d => some d
def under (Y : Ty) (t : TypeId) : Option TypeDesc := (Y.t t).bind fun i => descT Y i
def sizeT (Y : Ty) (t : TypeId) : Option Nat := (Y.t t).bind fun i => some i.size
def isB (d : TypeDesc) : Bool := match d with
  | .int .u8 => true
  | _ => false
def byteT (Y : Ty) (t : TypeId) : Option Bool := (under Y t).bind fun d => some (isB d)
def guardB (b : Bool) : Option Unit := match b with
  | true => some ()
  | false => none
def ofC (v : Value) : Option AV := match v with
  | .bool x => some (.b x)
  | .int k x => some (.i k x)
  | .string x => some (.s (x.data.toList.map fun b => b.toNat))
  | .pointer none => some .p0
  | .slice none 0 0 => some .s0
  | .nilFunc => some .f0
  | .nilIface => some .i0
  | .map none => some .m0
  | _ => none
def ofCs (l : List Value) : Option (List AV) := match l with
  | [] => some []
  | v :: l => (ofC v).bind fun a => (ofCs l).bind fun as9 => some (a :: as9)
def ofV (v : Value) : Option AV := match v with
  | .agg cs => (ofCs cs.toList).bind fun l => some (.ag l)
  | .tuple vs => match vs.toList with
    | [] => some (.tu [])
    | _ => none
  | v => ofC v
def zeroT (Y : Ty) (t : TypeId) : Option (List AV) := (Y.t t).bind fun i => i.zero.bind fun v => (ofV v).bind fun a => a.cells.bind fun l => (guardB (Nat.beq l.length i.size)).bind fun _ => some l
def cA (x : Operand) : Option Arg := match x with
  | .tmp t => some (.t t)
  | .const v => (ofV v).bind fun a => some (.c a)
  | .func f => some (.c (.f f [] []))
  | .global _ => none
def cAs (l : List Operand) : Option (List Arg) := match l with
  | [] => some []
  | x :: l => (cA x).bind fun a => (cAs l).bind fun as9 => some (a :: as9)
def cO (x : Option Operand) : Option (Option Arg) := match x with
  | none => some none
  | some x => (cA x).bind fun a => some (some a)
def cPs (place : Nat → Option (Nat × Nat)) (l : List (Nat × Operand)) : Option (List Part) := match l with
  | [] => some []
  | jx :: l => (place jx.1).bind fun om => (cA jx.2).bind fun a => (cPs place l).bind fun as9 => some (⟨om.1, om.2, a⟩ :: as9)
def fldP (Y : Ty) (fs : List Field) : Option (List (Nat × Nat)) := match fs with
  | [] => some []
  | f :: fs => (sizeT Y f.type).bind fun m => (fldP Y fs).bind fun l => some ((f.offset, m) :: l)
def sliceD (d : TypeDesc) : Option TypeId := match d with
  | .slice e => some e
  | _ => none
def elemS (Y : Ty) (t : TypeId) : Option TypeId := (under Y t).bind sliceD
def okE (i : TypeInfo) : Bool := Nat.ble i.bytes lim && (Nat.ble 1 i.bytes && Nat.ble 1 i.size)
def isIntD (d : TypeDesc) : Bool := match d with
  | .int _ => true
  | _ => false
def cApp (Y : Ty) (sT xT : TypeId) (s x : Operand) : Option PO := (elemS Y sT).bind fun el => (Y.t el).bind fun i => (guardB (okE i)).bind fun _ =>
  (under Y xT).bind fun d => (byteT Y el).bind fun z => (zeroT Y el).bind fun cs => (cA s).bind fun s => (cA x).bind fun x => match d with
    | .int _ => some (.apz z i.size cs s x)
    | .slice _ => some (.app z i.size s x)
    | .string => some (.app z i.size s x)
    | _ => none
def isAggD (d : TypeDesc) : Bool := match d with
  | .struct _ => true
  | .array _ _ => true
  | _ => false
def mapD (d : TypeDesc) : Option (TypeId × TypeId) := match d with
  | .map k e => some (k, e)
  | _ => none
def keyD (Y : Ty) (k : TypeId) : Option (Option Nat) := (under Y k).bind fun d => match d with
  | .int _ => some none
  | .string => some (some 0)
  | .array n el => match n with
    | 0 => none
    | m + 1 => (under Y el).bind fun ed => (guardB (isIntD ed)).bind fun _ => (sizeT Y el).bind fun z => (guardB (Nat.beq z 1)).bind fun _ => some (some (m + 1))
  | _ => none
def zeroV (Y : Ty) (t : TypeId) : Option AV := (Y.t t).bind fun i => i.zero.bind fun v => ofV v
def cLkm (Y : Ty) (t : TypeId) (x k : Operand) (ok : Bool) : Option PO := (under Y t).bind mapD |>.bind fun ke => (keyD Y ke.1).bind fun q => (zeroV Y ke.2).bind fun z => (cA x).bind fun x => (cA k).bind fun k => some (.lkm q z ok x k)
def cMup (Y : Ty) (t : TypeId) (x k v : Operand) : Option PO := (under Y t).bind mapD |>.bind fun ke => (keyD Y ke.1).bind fun q => (cA x).bind fun x => (cA k).bind fun k => (cA v).bind fun v => some (.mup q x k v)
def cDel (Y : Ty) (t : TypeId) (x k : Operand) : Option PO := (under Y t).bind mapD |>.bind fun ke => (keyD Y ke.1).bind fun q => (cA x).bind fun x => (cA k).bind fun k => some (.del q x k)
def cMen (Y : Ty) (t : TypeId) (x k : Operand) : Option PO := (under Y t).bind mapD |>.bind fun ke => (keyD Y ke.1).bind fun q => (zeroV Y ke.2).bind fun z => (cA x).bind fun x => (cA k).bind fun k => some (.men q z x k)
def cFld (Y : Ty) (t : TypeId) (x : Operand) (j : Nat) : Option PO := (under Y t).bind fun d => (cA x).bind fun x => match d with
  | .struct fs => fs.toList[j]?.bind fun f => (under Y f.type).bind fun fd => (sizeT Y f.type).bind fun m => (guardB (Nat.ble 1 m)).bind fun _ => some (.fld f.offset m (isAggD fd) x)
  | _ => none
def cIdx (Y : Ty) (t : TypeId) (x i : Operand) : Option PO := (under Y t).bind fun d => (cA x).bind fun x => (cA i).bind fun i => match d with
  | .array n el => (under Y el).bind fun ed => (sizeT Y el).bind fun w => (guardB (Nat.ble 1 w)).bind fun _ => some (.idx n w (isAggD ed) x i)
  | .string => some (.ixt x i)
  | _ => none
def cSap (Y : Ty) (t : TypeId) (x : Operand) : Option PO := (under Y t).bind fun d => (cA x).bind fun x => match d with
  | .array n _ => some (.sap n x)
  | _ => none
def cLen (Y : Ty) (t : TypeId) (x : Operand) : Option PO := (under Y t).bind fun d => (cA x).bind fun a => match d with
  | .string => some (.lns a)
  | .slice _ => some (.len a)
  | .array n _ => some (.mv (.c (.i .i64 (.ofNat n))))
  | .map _ _ => some (.lnm a)
  | _ => none
def cCap (Y : Ty) (t : TypeId) (x : Operand) : Option PO := (under Y t).bind fun d => (cA x).bind fun a => match d with
  | .slice _ => some (.cap a)
  | .array n _ => some (.mv (.c (.i .i64 (.ofNat n))))
  | _ => none
def cBuiltin (Y : Ty) (b : Builtin) (ts : List TypeId) (xs : List Operand) : Option PO := match b with
  | .append => match ts with
    | [sT, xT] => match xs with
      | [s, x] => cApp Y sT xT s x
      | _ => none
    | _ => none
  | .copy => match ts with
    | [dT, _] => match xs with
      | [d, x] => (elemS Y dT).bind fun el => (sizeT Y el).bind fun w => (cA d).bind fun d => (cA x).bind fun x => some (.cpy w d x)
      | _ => none
    | _ => none
  | .clear => match ts with
    | [t] => match xs with
      | [d] => (elemS Y t).bind fun el => (zeroT Y el).bind fun cs => (cA d).bind fun d => some (.clr cs d)
      | _ => none
    | _ => none
  | .delete => match ts with
    | t :: _ => match xs with
      | [x, k] => cDel Y t x k
      | _ => none
    | _ => none
  | .len => match ts with
    | [t] => match xs with
      | [x] => cLen Y t x
      | _ => none
    | _ => none
  | .cap => match ts with
    | [t] => match xs with
      | [x] => cCap Y t x
      | _ => none
    | _ => none
  | .max => match xs with
    | x :: l => (cA x).bind fun x => (cAs l).bind fun l => some (.mm true x l)
    | _ => none
  | .min => match xs with
    | x :: l => (cA x).bind fun x => (cAs l).bind fun l => some (.mm false x l)
    | _ => none
  | _ => none
def cCall (Y : Ty) (c : Call) : Option PO := match c.callee with
  | .invoke _ _ => none
  | .value f => (cA f).bind fun f => (cAs c.args.toList).bind fun l => some (.calv f l)
  | .builtin b => cBuiltin Y b c.argTypes.toList c.args.toList
def eqD (Y : Ty) (t : TypeId) (d : TypeDesc) : Option Nat := match d with
  | .bool => some 0
  | .pointer el => (sizeT Y el).bind fun m => match m with
    | 0 => none
    | _ + 1 => some 1
  | .slice _ => some 2
  | .func _ _ _ => some 3
  | .struct _ => (guardB (Y.q t)).bind fun _ => (sizeT Y t).bind fun m => some (m + 4)
  | .array _ _ => (guardB (Y.q t)).bind fun _ => (sizeT Y t).bind fun m => some (m + 4)
  | _ => none
def numD (d : TypeDesc) : Bool := match d with
  | .int _ => true
  | .string => true
  | _ => false
def cEq (Y : Ty) (o : BinOp) (ng : Bool) (t : TypeId) (x y : Operand) : Option PO := (under Y t).bind fun d => (cA x).bind fun x => (cA y).bind fun y => match numD d with
  | true => some (.bin o x y)
  | false => (eqD Y t d).bind fun kd => some (.eq kd ng x y)
def cBin (Y : Ty) (o : BinOp) (t : TypeId) (x y : Operand) : Option PO := match o with
  | .eql => cEq Y .eql false t x y
  | .neq => cEq Y .neq true t x y
  | o => (cA x).bind fun x => (cA y).bind fun y => some (.bin o x y)
def cConv (Y : Ty) (s d : TypeId) (x : Operand) : Option PO := (under Y s).bind fun sd => (under Y d).bind fun dd => (cA x).bind fun a => match sd with
  | .int _ => match dd with
    | .int k => some (.cvi k a)
    | _ => none
  | .string => match dd with
    | .string => some (.cvs a)
    | .slice e => (byteT Y e).bind fun z => (guardB z).bind fun _ => some (.cvb a)
    | _ => none
  | .slice e => match dd with
    | .string => (byteT Y e).bind fun z => (guardB z).bind fun _ => some (.cvt a)
    | .slice e => (byteT Y e).bind fun z => (guardB z).bind fun _ => (guardB (Nat.beq s d)).bind fun _ => some (.cvm a)
    | _ => none
  | _ => none
def cSlice (Y : Ty) (t : TypeId) (x : Operand) (lo hi mx : Option Operand) : Option PO := (under Y t).bind fun d => (cA x).bind fun x => (cO lo).bind fun lo => (cO hi).bind fun hi => (cO mx).bind fun mx =>
  (guardB (mx.isNone || hi.isSome)).bind fun _ => match d with
  | .string => (guardB mx.isNone).bind fun _ => some (.slt x lo hi)
  | .slice el => (sizeT Y el).bind fun w => some (.sls w x lo hi mx)
  | .array n el => (sizeT Y el).bind fun w => some (.sla w n x lo hi mx)
  | _ => none
def cIx (Y : Ty) (t : TypeId) (x ix : Operand) : Option PO := (under Y t).bind fun d => (cA x).bind fun x => (cA ix).bind fun ix => match d with
  | .array n el => (sizeT Y el).bind fun w => some (.ixa n w x ix)
  | .slice el => (sizeT Y el).bind fun w => some (.ixs w x ix)
  | _ => none
def cFad (Y : Ty) (t : TypeId) (x : Operand) (j : Nat) : Option PO := (under Y t).bind fun d => (cA x).bind fun x => match d with
  | .struct fs => fs.toList[j]?.bind fun f => (sizeT Y f.type).bind fun m => (guardB (Nat.ble 1 m)).bind fun _ => some (.fad f.offset x)
  | _ => none
def cBuild (Y : Ty) (t : TypeId) (parts : List (Nat × Operand)) : Option PO := (under Y t).bind fun d => (zeroT Y t).bind fun cs => match d with
  | .struct fs => (fldP Y fs.toList).bind fun pl => (cPs (fun j => pl[j]?) parts).bind fun ps => some (.build cs ps)
  | .array _ el => (sizeT Y el).bind fun m => (cPs (fun j => some (j * m, m)) parts).bind fun ps => some (.build cs ps)
  | _ => none
def cBsl (Y : Ty) (t : TypeId) (len : Nat) (parts : List (Nat × Operand)) : Option PO := (elemS Y t).bind fun el => (sizeT Y el).bind fun m => (guardB (Nat.ble (len * m) lim)).bind fun _ => (byteT Y el).bind fun z => (zeroT Y el).bind fun cs =>
  (cPs (fun j => some (j * m, m)) parts).bind fun ps => some (.bsl z (repL cs len) len ps)
def cMks (Y : Ty) (t : TypeId) (l c : Operand) : Option PO := (elemS Y t).bind fun el => (Y.t el).bind fun i => (guardB (Nat.ble i.bytes lim)).bind fun _ => (byteT Y el).bind fun z => (zeroT Y el).bind fun cs => (cA l).bind fun l => (cA c).bind fun c => some (.mks z cs l c)
def cLoad (Y : Ty) (t : TypeId) (x : Operand) : Option PO := (under Y t).bind fun d => (sizeT Y t).bind fun m => (cA x).bind fun a => match isAggD d with
  | true => some (.ldn m a)
  | false => some (.ld1 a)
def cMkf (fn : Fn) (first cap : List Operand) : Option PO := match fn with
  | .func f => (cAs first).bind fun a => (cAs cap).bind fun b => some (.mkf f a b)
  | _ => none
def cOp (Y : Ty) (o : Op) : Option PO := match o with
  | .move x => (cA x).bind fun a => some (.mv a)
  | .assign x => (cA x).bind fun a => some (.mv a)
  | .pick c a b => (cA c).bind fun c => (cA a).bind fun a => (cA b).bind fun b => some (.pick c a b)
  | .alloc t => (byteT Y t).bind fun z => (zeroT Y t).bind fun cs => some (.new z cs)
  | .box t x => (byteT Y t).bind fun z => (cA x).bind fun a => some (.box z a)
  | .build t parts => cBuild Y t parts.toList
  | .buildSlice t len parts => cBsl Y t len parts.toList
  | .load t a => cLoad Y t a
  | .store t a x => (sizeT Y t).bind fun m => (cA a).bind fun a => (cA x).bind fun x => some (.st m a x)
  | .nilCheck x => (cA x).bind fun a => some (.nilc a)
  | .binOp o' t x y _ => cBin Y o' t x y
  | .unOp o' _ x => (cA x).bind fun a => some (.un o' a)
  | .convert s d x => cConv Y s d x
  | .makeFunc fn first cap => cMkf fn first.toList cap.toList
  | .makeSlice t l c => cMks Y t l c
  | .slice t x lo hi mx => cSlice Y t x lo hi mx
  | .fieldAddr t x j => cFad Y t x j
  | .indexAddr t x ix => cIx Y t x ix
  | .extract x j => (cA x).bind fun a => some (.ext a j)
  | .makeMap t r => (under Y t).bind mapD |>.bind fun _ => match r with
    | none => some .mkm
    | some _ => none
  | .lookup t x k ok => cLkm Y t x k ok
  | .mapUpdate t x k v => cMup Y t x k v
  | .insert t x k v => cMup Y t x k v
  | .mapEntry t x k => cMen Y t x k
  | .entryStore _ x b v => (cA x).bind fun x => (cA b).bind fun b => (cA v).bind fun v => some (.mes x b v)
  | .field t x j => cFld Y t x j
  | .index t x i => cIdx Y t x i
  | .sliceToArrayPointer t x => cSap Y t x
  | .panic _ => some .bad
  | .makeInterface _ _ => some .bad
  | .call c => cCall Y c
  | _ => none
def ancL (acc : List Nat) (l : List Edge) : Nat := match l with
  | [] => 0
  | ed :: l => match Region.binds .any ed && Nat.blt ed.on acc.length with
    | true => Nat.lor (ancL acc l) (Nat.lor (Nat.shiftLeft 1 ed.on) (acc[acc.length - 1 - ed.on]?.getD 0))
    | false => ancL acc l
def anc (acc : List Nat) (l : List Oper) : List Nat := match l with
  | [] => acc.reverse
  | o :: l => anc (ancL acc o.after.toList :: acc) l
def cG (N : Nat) (ops : List Oper) (g : Option (Nat × Bool)) : Option (Option (Nat × Bool)) := match g with
  | none => some none
  | some jw => ops[jw.1]?.bind fun o' => o'.dst.bind fun gd => (guardB (Nat.blt gd N)).bind fun _ => some (some (gd, jw.2))
def dstOk (N : Nat) (d : Option Tmp) : Bool := match d with
  | none => true
  | some d => Nat.blt d N
def cS (Y : Ty) (N : Nat) (ops : List Oper) (o : Oper) : Option PS := (cOp Y o.op).bind fun p => (cG N ops o.guard).bind fun g => (guardB (dstOk N o.dst)).bind fun _ => some ⟨g, o.dst, p⟩
def cSs (Y : Ty) (N : Nat) (ops l : List Oper) : Option (List PS) := match l with
  | [] => some []
  | o :: l => (cS Y N ops o).bind fun a => (cSs Y N ops l).bind fun as9 => some (a :: as9)
def tmpsA (x : Arg) : List Nat := match x with
  | .t n => [n]
  | .c _ => []
def tmpsAs (l : List Arg) : List Nat := l.flatMap tmpsA
def tmpsO (x : Option Arg) : List Nat := match x with
  | none => []
  | some x => tmpsA x
def tmpsP (o : PO) : List Nat := match o with
  | .mv x => tmpsA x
  | .pick c a b => tmpsA c ++ (tmpsA a ++ tmpsA b)
  | .new _ _ => []
  | .box _ x => tmpsA x
  | .build _ ps => ps.flatMap fun p => tmpsA p.x
  | .bsl _ _ _ ps => ps.flatMap fun p => tmpsA p.x
  | .ld1 a => tmpsA a
  | .ldn _ a => tmpsA a
  | .st _ a v => tmpsA a ++ tmpsA v
  | .nilc x => tmpsA x
  | .bin _ x y => tmpsA x ++ tmpsA y
  | .eq _ _ x y => tmpsA x ++ tmpsA y
  | .un _ x => tmpsA x
  | .cvi _ x => tmpsA x
  | .cvs x => tmpsA x
  | .cvb x => tmpsA x
  | .cvt x => tmpsA x
  | .cvm x => tmpsA x
  | .mkf _ a b => tmpsAs a ++ tmpsAs b
  | .mks _ _ l c => tmpsA l ++ tmpsA c
  | .sls _ x lo hi mx => tmpsA x ++ (tmpsO lo ++ (tmpsO hi ++ tmpsO mx))
  | .sla _ _ x lo hi mx => tmpsA x ++ (tmpsO lo ++ (tmpsO hi ++ tmpsO mx))
  | .slt x lo hi => tmpsA x ++ (tmpsO lo ++ tmpsO hi)
  | .fad _ x => tmpsA x
  | .ixa _ _ x i => tmpsA x ++ tmpsA i
  | .ixs _ x i => tmpsA x ++ tmpsA i
  | .ext x _ => tmpsA x
  | .calv f l => tmpsA f ++ tmpsAs l
  | .app _ _ s x => tmpsA s ++ tmpsA x
  | .apz _ _ _ s x => tmpsA s ++ tmpsA x
  | .cpy _ d x => tmpsA d ++ tmpsA x
  | .clr _ d => tmpsA d
  | .len x => tmpsA x
  | .lns x => tmpsA x
  | .cap x => tmpsA x
  | .mm _ x l => tmpsA x ++ tmpsAs l
  | .mkm => []
  | .lkm _ _ _ x k => tmpsA x ++ tmpsA k
  | .mup _ x k v => tmpsA x ++ (tmpsA k ++ tmpsA v)
  | .del _ x k => tmpsA x ++ tmpsA k
  | .lnm x => tmpsA x
  | .men _ _ x k => tmpsA x ++ tmpsA k
  | .mes x b v => tmpsA x ++ (tmpsA b ++ tmpsA v)
  | .fld _ _ _ x => tmpsA x
  | .idx _ _ _ x i => tmpsA x ++ tmpsA i
  | .ixt x i => tmpsA x ++ tmpsA i
  | .sap _ x => tmpsA x
  | .bad => []
def readsS (o : PS) : List Nat := match o.g with
  | none => tmpsP o.o
  | some g => g.1 :: tmpsP o.o
def apartS (a b : PS) : Bool := match a.d with
  | none => true
  | some d => !(readsS b).contains d && !(b.d == some d)
def slotsOk (ops : List PS) (ms : List Nat) : Bool :=
  (List.range ops.length).all fun j => (List.range j).all fun i =>
    Nat.testBit (ms[j]?.getD 0) i || (match ops[i]? with
      | some a => match ops[j]? with
        | some b => apartS a b && apartS b a
        | none => false
      | none => false)
def backOk (k : Nat) (l : List Oper) : Bool := match l with
  | [] => true
  | o :: l => (o.after.toList.all fun ed => !Region.binds .any ed || Nat.blt ed.on k) && backOk (k + 1) l
def cC (Y : Ty) (N : Nat) (c : Code) : Option PC := match c with
  | .skip => some .skip
  | .ret => some .ret
  | .exit id => some (.exit id)
  | .seq a b => (cC Y N a).bind fun a => (cC Y N b).bind fun b => some (.seq a b)
  | .cond x a b => (cA x).bind fun x => (cC Y N a).bind fun a => (cC Y N b).bind fun b => some (.cond x a b)
  | .block id b => (cC Y N b).bind fun p => some (.block id p)
  | .loop b => (cC Y N b).bind fun p => some (.loop p)
  | .region _ ops d => (cSs Y N ops.toList ops.toList).bind fun l => match d with
    | false => some (.reg l)
    | true => (guardB (slotsOk l (anc [] ops.toList) && backOk 0 ops.toList)).bind fun _ => some (.drw l (anc [] ops.toList))
  | _ => none
def cR (Y : Ty) (r : ResultVar) : Option PR := match r with
  | .tmp t => some (.t t)
  | .cell a t => (under Y t).bind fun d => (sizeT Y t).bind fun m => match isAggD d with
      | true => some (.cn m a)
      | false => some (.c1 a)
def cRs (Y : Ty) (l : List ResultVar) : Option (List PR) := match l with
  | [] => some []
  | r :: l => (cR Y r).bind fun a => (cRs Y l).bind fun as9 => some (a :: as9)
def cF (Y : Ty) (fn : Func) : Option PF := fn.body.bind fun c => (cC Y fn.ntmps c).bind fun b => (cRs Y fn.results.toList).bind fun rs => some (.f b rs)
end Ev
end Go.Proofs.YthknbcbkibbncaaGreat
