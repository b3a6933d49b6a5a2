/- DERIVED. The evaluator once more, made for the kernel: memory and slots in trees, in continuation style. -/
import Derived.Test.YtijnjnncgkhabaaEvS
set_option linter.unusedVariables false
namespace Go.Proofs.Ytijnjnncgkhabaa
namespace Ev
/-- a number of Go's int, not below 0 -/
def nat64 (v : AV) : Option Nat := match v with
  | .i .i64 (.ofNat a) => some a
  | _ => none
namespace Kq
/-- eight -/
structure N8 (α : Type) where
  c0 : α
  c1 : α
  c2 : α
  c3 : α
  c4 : α
  c5 : α
  c6 : α
  c7 : α
def N8.all {α : Type} (x : α) : N8 α := ⟨x, x, x, x, x, x, x, x⟩
noncomputable def up0 {α : Type} (f : α → α) (t : N8 α) : N8 α := N8.rec (motive := fun _ => (α → α) → N8 α) (fun c0 c1 c2 c3 c4 c5 c6 c7 f => ⟨f c0, c1, c2, c3, c4, c5, c6, c7⟩) t f
noncomputable def up1 {α : Type} (f : α → α) (t : N8 α) : N8 α := N8.rec (motive := fun _ => (α → α) → N8 α) (fun c0 c1 c2 c3 c4 c5 c6 c7 f => ⟨c0, f c1, c2, c3, c4, c5, c6, c7⟩) t f
noncomputable def up2 {α : Type} (f : α → α) (t : N8 α) : N8 α := N8.rec (motive := fun _ => (α → α) → N8 α) (fun c0 c1 c2 c3 c4 c5 c6 c7 f => ⟨c0, c1, f c2, c3, c4, c5, c6, c7⟩) t f
noncomputable def up3 {α : Type} (f : α → α) (t : N8 α) : N8 α := N8.rec (motive := fun _ => (α → α) → N8 α) (fun c0 c1 c2 c3 c4 c5 c6 c7 f => ⟨c0, c1, c2, f c3, c4, c5, c6, c7⟩) t f
noncomputable def up4 {α : Type} (f : α → α) (t : N8 α) : N8 α := N8.rec (motive := fun _ => (α → α) → N8 α) (fun c0 c1 c2 c3 c4 c5 c6 c7 f => ⟨c0, c1, c2, c3, f c4, c5, c6, c7⟩) t f
noncomputable def up5 {α : Type} (f : α → α) (t : N8 α) : N8 α := N8.rec (motive := fun _ => (α → α) → N8 α) (fun c0 c1 c2 c3 c4 c5 c6 c7 f => ⟨c0, c1, c2, c3, c4, f c5, c6, c7⟩) t f
noncomputable def up6 {α : Type} (f : α → α) (t : N8 α) : N8 α := N8.rec (motive := fun _ => (α → α) → N8 α) (fun c0 c1 c2 c3 c4 c5 c6 c7 f => ⟨c0, c1, c2, c3, c4, c5, f c6, c7⟩) t f
noncomputable def up7 {α : Type} (f : α → α) (t : N8 α) : N8 α := N8.rec (motive := fun _ => (α → α) → N8 α) (fun c0 c1 c2 c3 c4 c5 c6 c7 f => ⟨c0, c1, c2, c3, c4, c5, c6, f c7⟩) t f
noncomputable def gt {α : Type} (d : Dg) (t : N8 α) : α := Dg.rec (motive := fun _ => N8 α → α) N8.c0 N8.c1 N8.c2 N8.c3 N8.c4 N8.c5 N8.c6 N8.c7 d t
noncomputable def up {α : Type} (d : Dg) (f : α → α) (t : N8 α) : N8 α := Dg.rec (motive := fun _ => (α → α) → N8 α → N8 α) up0 up1 up2 up3 up4 up5 up6 up7 d f t

/-- a slot's number in digits; none: too large -/
def dgs (n : Nat) : Option Dg := match n with
  | 0 => some .d0 | 1 => some .d1 | 2 => some .d2 | 3 => some .d3 | 4 => some .d4 | 5 => some .d5 | 6 => some .d6 | 7 => some .d7 | _ => none
abbrev E3 := N8 (N8 (N8 AV))
structure G where
  g : E3 → AV
structure P where
  p : AV → E3 → E3
noncomputable def gtS (n : Nat) : G := match dgs (n / 64) with
  | none => ⟨fun _ => und⟩
  | some a => match dgs (n / 8 % 8) with
    | none => ⟨fun _ => und⟩
    | some b => match dgs (n % 8) with
      | none => ⟨fun _ => und⟩
      | some c => ⟨fun e => gt c (gt b (gt a e))⟩
noncomputable def ptS (n : Nat) : Option P := match dgs (n / 64) with
  | none => none
  | some a => match dgs (n / 8 % 8) with
    | none => none
    | some b => match dgs (n % 8) with
      | none => none
      | some c => some ⟨fun v e => up a (up b (up c fun _ => v)) e⟩

/-- a block: may a string share it, how many cells, the cells -/
structure Bk where
  z : Zf
  n : Nat
  c : List AV
abbrev H6 := N8 (N8 (N8 (N8 (N8 (N8 (Option Bk))))))
def h1 : N8 (Option Bk) := N8.all none
def h2 : N8 (N8 (Option Bk)) := N8.all h1
def h3 : N8 (N8 (N8 (Option Bk))) := N8.all h2
def h4 : N8 (N8 (N8 (N8 (Option Bk)))) := N8.all h3
def h5 : N8 (N8 (N8 (N8 (N8 (Option Bk))))) := N8.all h4
def h6 : H6 := N8.all h5
noncomputable def look (id : Id) (h : H6) : Option Bk := gt id.f (gt id.e (gt id.d (gt id.c (gt id.b (gt id.a h)))))
noncomputable def lay (id : Id) (b : Option Bk) (h : H6) : H6 := up id.a (up id.b (up id.c (up id.d (up id.e (up id.f fun _ => b))))) h
structure St where
  tr : Bool
  h : H6
  n : Id
  r : List Rng
  w : List Rng

def M (α : Type) : Type := St → (α → St → Bool) → Bool
namespace M
def pure {α : Type} (a : α) : M α := fun s k => k a s
def no {α : Type} : M α := fun _ _ => false
def bind {α β : Type} (m : M α) (f : α → M β) : M β := fun s k => m s fun a t => f a t k
noncomputable def ofO {α β : Type} (o : Option α) (f : α → M β) : M β := Option.rec (motive := fun _ => (α → M β) → M β) (fun _ => no) (fun a f => f a) o f
noncomputable def ifB {β : Type} (b : Bool) (m : M β) : M β := Bool.rec (motive := fun _ => M β → M β) (fun _ => no) (fun m => m) b m
noncomputable def logR (s : St) (id : Id) (lo m : Nat) : St := Bool.rec (motive := fun _ => St → Id → Nat → Nat → St) (fun s _ _ _ => s) (fun s id lo m => ⟨true, s.h, s.n, ⟨id, lo, m⟩ :: s.r, s.w⟩) s.tr s id lo m
noncomputable def logW (s : St) (id : Id) (lo m : Nat) : St := Bool.rec (motive := fun _ => St → Id → Nat → Nat → St) (fun s _ _ _ => s) (fun s id lo m => ⟨true, s.h, s.n, s.r, ⟨id, lo, m⟩ :: s.w⟩) s.tr s id lo m
noncomputable def rd (id : Id) (lo m : Nat) : M (List AV) := match Nat.beq m 0 with
  | true => pure []
  | false => fun s k => match look id s.h with
    | none => false
    | some b => match Nat.ble (lo + m) b.n with
      | true => k ((b.c.drop lo).take m) (logR s id lo m)
      | false => false
noncomputable def wr (id : Id) (lo : Nat) (l : List AV) : M Unit := match l.isEmpty with
  | true => pure ()
  | false => fun s k => match look id s.h with
    | none => false
    | some b => match Nat.ble (lo + l.length) b.n with
      | true => k () (logW ⟨s.tr, lay id (some ⟨b.z, b.n, b.c.take lo ++ (l ++ b.c.drop (lo + l.length))⟩) s.h, s.n, s.r, s.w⟩ id lo l.length)
      | false => false
noncomputable def new (z : Zf) (l : List AV) : M Id := fun s k => match s.n.inc with
  | none => false
  | some n => k s.n (logW ⟨s.tr, lay s.n (some ⟨z, l.length, l⟩) s.h, n, s.r, s.w⟩ s.n 0 (l.length + 1))
noncomputable def over (id : Id) (lo m : Nat) (l : List AV) : M Id := fun s k => match look id s.h with
  | none => false
  | some b => match Nat.ble (lo + m) b.n with
    | false => false
    | true => match s.n.inc with
      | none => false
      | some n => k s.n (logW (logW (logR ⟨s.tr, lay s.n (some ⟨b.z.over lo, m + l.length, (b.c.drop lo).take m ++ l⟩) (lay id none s.h), n, s.r, s.w⟩ id 0 (b.n + 1)) id 0 (b.n + 1)) s.n 0 (m + l.length + 1))
noncomputable def shared (id : Id) : M Zf := fun s k => match look id s.h with
  | none => false
  | some b => k b.z (logR s id b.n 1)
noncomputable def ends (id : Id) : M (Zf × Nat) := fun s k => match look id s.h with
  | none => false
  | some b => k (b.z, b.n) (logR s id b.n 1)
noncomputable def apart {α : Type} (m : M α) : M (α × List Rng × List Rng) := fun s k => m ⟨true, s.h, s.n, [], []⟩ fun a t => Bool.rec (motive := fun _ => α → St → St → (α × List Rng × List Rng → St → Bool) → Bool)
  (fun a t s k => k (a, t.r, t.w) ⟨false, t.h, t.n, s.r, s.w⟩) (fun a t s k => k (a, t.r, t.w) ⟨true, t.h, t.n, t.r ++ s.r, t.w ++ s.w⟩) s.tr a t s k
end M

noncomputable def firstL (w n : Nat) (v : AV) : M (List AV) := match v with
  | .s0 => M.pure []
  | .sl id off _ _ => M.rd id off (n * w)
  | .so id off _ _ _ => M.rd id off (n * w)
  | .s b => M.ifB (Nat.beq w 1) (M.pure (bytesL (b.take n)))
  | _ => M.no
noncomputable def grow (z : Bool) (w : Nat) (s : AV) (n : Nat) (new : List AV) : M AV := match s with
  | .s0 => match Nat.beq n 0 with
    | true => M.pure .s0
    | false => M.bind (M.new ⟨z, true, false⟩ new) fun id => M.pure (.so id 0 n n w)
  | .sl id off len cap => match Nat.ble (len + n) cap with
    | true => M.bind (M.wr id (off + len * w) new) fun _ => M.pure (.sl id off (len + n) cap)
    | false => M.ifB (Nat.ble len lim) (M.bind (M.rd id off (len * w)) fun old => M.bind (M.new ⟨z, true, false⟩ (old ++ new)) fun id => M.pure (.so id 0 (len + n) (len + n) w))
  | .so id off len k w' => M.ifB (Nat.beq w w') (match Nat.ble (len + n) k with
    | true => M.bind (M.wr id (off + len * w) new) fun _ => M.pure (.so id off (len + n) k w)
    | false => M.ifB (Nat.ble len lim) (M.bind (M.over id off (len * w) new) fun id => M.pure (.so id 0 (len + n) (len + n) w)))
  | _ => M.no
noncomputable def appF (z : Bool) (w : Nat) (s x : AV) : M AV := M.ofO (lenO x) fun n => M.ifB (Nat.ble n lim) (M.bind (firstL w n x) fun new => grow z w s n new)
noncomputable def apzF (z : Bool) (w : Nat) (cs : List AV) (s x : AV) : M AV := M.ofO (natOf x) fun n => M.ifB (Nat.ble n lim) (grow z w s n (repL cs n))
noncomputable def cpyF (w : Nat) (d x : AV) : M AV := M.ofO (lenO x) fun m => match d with
  | .s0 => M.pure (.i .i64 (.ofNat 0))
  | .sl id off len _ => M.bind (firstL w (minN m len) x) fun l => M.bind (M.wr id off l) fun _ => M.pure (.i .i64 (.ofNat (minN m len)))
  | .so id off len _ _ => M.bind (firstL w (minN m len) x) fun l => M.bind (M.wr id off l) fun _ => M.pure (.i .i64 (.ofNat (minN m len)))
  | _ => M.no
noncomputable def clrF (cs : List AV) (d : AV) : M AV := match d with
  | .s0 => M.pure (.tu [])
  | .sl id off len _ => M.bind (M.wr id off (repL cs len)) fun _ => M.pure (.tu [])
  | .so id off len _ _ => M.bind (M.wr id off (repL cs len)) fun _ => M.pure (.tu [])
  | _ => M.no
noncomputable def eqP (i : Id) (a : Nat) (j : Id) (b : Nat) : M Bool := match Nat.beq i.num j.num with
  | true => M.pure (Nat.beq a b)
  | false => M.bind (M.shared i) fun z => M.bind (M.shared j) fun z' => M.ifB (!(z.s || z'.s)) (M.pure false)
noncomputable def eqB (x y : AV) : M Bool := match x with
  | .b x => match y with
    | .b y => M.pure (x == y)
    | _ => M.no
  | _ => M.no
noncomputable def eqQ (x y : AV) : M Bool := match x with
  | .p0 => match y with
    | .p0 => M.pure true
    | .p _ _ => M.pure false
    | _ => M.no
  | .p i a => match y with
    | .p0 => M.pure false
    | .p j b => eqP i a j b
    | _ => M.no
  | _ => M.no
noncomputable def eqS (x y : AV) : M Bool := match x with
  | .s0 => match y with
    | .s0 => M.pure true
    | .sl _ _ _ _ => M.pure false
    | .so _ _ _ _ _ => M.pure false
    | _ => M.no
  | .sl _ _ _ _ => match y with
    | .s0 => M.pure false
    | _ => M.no
  | .so _ _ _ _ _ => match y with
    | .s0 => M.pure false
    | _ => M.no
  | _ => M.no
noncomputable def eqF (x y : AV) : M Bool := match x with
  | .f0 => match y with
    | .f0 => M.pure true
    | .f _ _ _ => M.pure false
    | _ => M.no
  | .f _ _ _ => match y with
    | .f0 => M.pure false
    | _ => M.no
  | _ => M.no
noncomputable def eqG (m : Nat) (x y : AV) : M Bool := match x with
  | .ag xs => match y with
    | .ag ys => match Nat.beq xs.length m with
      | true => M.ofO (ceqs xs ys) M.pure
      | false => M.no
    | _ => M.no
  | _ => M.no
noncomputable def eqK (kd : Nat) (x y : AV) : M Bool := match kd with
  | 0 => eqB x y
  | 1 => eqQ x y
  | 2 => eqS x y
  | 3 => eqF x y
  | m + 4 => eqG m x y
noncomputable def eqN (kd : Nat) (ng : Bool) (x y : AV) : M AV := M.bind (eqK kd x y) fun r => M.pure (.b (ng != r))
noncomputable def strF (o : BinOp) (x : List Nat) (y : AV) : M AV := match y with
  | .s y => match o with
    | .eql => M.pure (.b (eqL x y))
    | .neq => M.pure (.b (!eqL x y))
    | .add => M.ifB (Nat.ble (x.length + y.length) lim) (M.pure (.s (x ++ y)))
    | _ => M.no
  | _ => M.no
noncomputable def intF (o : BinOp) (k : IntKind) (a : Int) (k' : IntKind) (b : Int) : M AV := match o with
  | .shl => M.ofO (shl k a b) M.pure
  | .shr => M.ofO (shr k a b) M.pure
  | o => M.ifB (keq k k') (M.ofO (ari o k a b) M.pure)
noncomputable def binF (o : BinOp) (x y : AV) : M AV := match x with
  | .i k a => match y with
    | .i k' b => intF o k a k' b
    | _ => M.no
  | .s x => strF o x y
  | _ => M.no
noncomputable def cvtL (l : List AV) : M AV := M.ofO (bytesOf l) fun bs => M.pure (.s bs)
noncomputable def cvtF (x : AV) : M AV := match x with
  | .s0 => M.pure (.s [])
  | .sl id off len _ => M.bind (M.rd id off len) cvtL
  | .so id off len _ _ => M.bind (M.rd id off len) cvtL
  | _ => M.no
noncomputable def cvmF (x : AV) : M AV := match x with
  | .sl id a b c => M.bind (M.shared id) fun z => M.ifB z.s (M.pure (.sl id a b c))
  | .so id a b c d => M.bind (M.shared id) fun z => M.ifB z.s (M.pure (.so id a b c d))
  | _ => M.no
noncomputable def cvbF (x : AV) : M AV := match x with
  | .s b => M.ifB (Nat.ble b.length lim) (M.bind (M.new ⟨true, true, false⟩ (bytesL b)) fun id => M.pure (.so id 0 b.length b.length 1))
  | _ => M.no
noncomputable def mksF (z : Bool) (cs : List AV) (l c : AV) : M AV := M.ofO (natOf l) fun l => M.ofO (natOf c) fun c =>
  M.ifB (Nat.ble l c && Nat.ble c lim) (M.bind (M.new ⟨z, true, true⟩ (repL cs c)) fun id => M.pure (.sl id 0 l c))
noncomputable def ixaF (n w : Nat) (x i : AV) : M AV := M.ofO (natOf i) fun a => match x with
  | .p id off => M.ifB (Nat.blt a n) (M.pure (.p id (Nat.add off (Nat.mul a w))))
  | _ => M.no
noncomputable def ixsF (w : Nat) (x i : AV) : M AV := M.ofO (natOf i) fun a => match x with
  | .sl id off len cap => M.ifB (Nat.blt a len) (M.pure (.p id (Nat.add off (Nat.mul a w))))
  | .so id off len k _ => M.ifB (Nat.blt a len) (M.pure (.p id (Nat.add off (Nat.mul a w))))
  | _ => M.no
noncomputable def ldF (x : AV) : M AV := match x with
  | .p id off => M.bind (M.rd id off 1) fun l => match l with
    | [v] => M.pure v
    | _ => M.no
  | _ => M.no
noncomputable def ldnF (m : Nat) (x : AV) : M AV := match x with
  | .p id off => M.bind (M.rd id off m) fun l => M.pure (.ag l)
  | _ => M.no
noncomputable def stF (m : Nat) (a v : AV) : M AV := match a with
  | .p id off => M.ofO v.cells fun l => M.ifB (Nat.beq l.length m) (M.bind (M.wr id off l) fun _ => M.pure und)
  | _ => M.no
noncomputable def fadF (off : Nat) (x : AV) : M AV := match x with
  | .p id o => M.pure (.p id (Nat.add o off))
  | _ => M.no
noncomputable def nilF (x : AV) : M AV := match x with
  | .p id off => M.pure (.p id off)
  | .f fn a b => M.pure (.f fn a b)
  | _ => M.no
noncomputable def extF (x : AV) (j : Nat) : M AV := match x with
  | .tu vs => M.ofO vs[j]? M.pure
  | _ => M.no
noncomputable def pickF (c a b : AV) : M AV := match c with
  | .b t => match t with
    | true => M.pure a
    | false => M.pure b
  | _ => M.no
noncomputable def cviF (k : IntKind) (x : AV) : M AV := match x with
  | .i _ a => M.pure (.i k (wrapF k a))
  | _ => M.no
noncomputable def cvsF (x : AV) : M AV := match x with
  | .s b => M.pure (.s b)
  | _ => M.no
noncomputable def newF (z : Bool) (l : List AV) : M AV := M.bind (M.new ⟨z, true, true⟩ l) fun id => M.pure (.p id 0)
noncomputable def bslF (z : Bool) (len : Nat) (l : List AV) : M AV := M.bind (M.new ⟨z, true, true⟩ l) fun id => M.pure (.sl id 0 len len)

structure Fn where
  fn : Nat → List AV → M AV
noncomputable def callF (F : Fn) (f : AV) (l : List AV) : M AV := match f with
  | .f fn first cap => F.fn fn (first ++ (l ++ cap))
  | _ => M.no


noncomputable def gA (x : Arg) : G := match x with
  | .t n => gtS n
  | .c v => ⟨fun _ => v⟩
structure GL where
  g : E3 → List AV
structure GO where
  g : E3 → Option AV
noncomputable def gL (l : List Arg) : GL := match l with
  | [] => ⟨fun _ => []⟩
  | x :: l => ⟨fun e => (gA x).g e :: (gL l).g e⟩
noncomputable def gO (x : Option Arg) : GO := match x with
  | none => ⟨fun _ => none⟩
  | some x => ⟨fun e => some ((gA x).g e)⟩
structure FL where
  f : E3 → List AV → Option (List AV)
noncomputable def gF (ps : List Part) : FL := match ps with
  | [] => ⟨fun _ cs => some cs⟩
  | p :: ps => ⟨fun e cs => match ((gA p.x).g e).cells with
    | none => none
    | some l => match Nat.beq l.length p.m && Nat.ble (p.off + p.m) cs.length with
      | true => (gF ps).f e (setL l cs p.off)
      | false => none⟩
/-- an operation, made ready -/
structure OV where
  v : Fn → E3 → M AV
noncomputable def dO (o : PO) : OV := match o with
  | .mv x => ⟨fun _ e => M.pure ((gA x).g e)⟩
  | .pick c a b => ⟨fun _ e => pickF ((gA c).g e) ((gA a).g e) ((gA b).g e)⟩
  | .new z cs => ⟨fun _ _ => newF z cs⟩
  | .box z x => ⟨fun _ e => M.ofO ((gA x).g e).cells fun l => newF z l⟩
  | .build cs ps => ⟨fun _ e => M.ofO ((gF ps).f e cs) fun l => M.pure (.ag l)⟩
  | .bsl z cs len ps => ⟨fun _ e => M.ofO ((gF ps).f e cs) fun l => bslF z len l⟩
  | .ld1 a => ⟨fun _ e => ldF ((gA a).g e)⟩
  | .ldn m a => ⟨fun _ e => ldnF m ((gA a).g e)⟩
  | .st m a v => ⟨fun _ e => stF m ((gA a).g e) ((gA v).g e)⟩
  | .nilc x => ⟨fun _ e => nilF ((gA x).g e)⟩
  | .bin o x y => ⟨fun _ e => binF o ((gA x).g e) ((gA y).g e)⟩
  | .eq kd ng x y => ⟨fun _ e => eqN kd ng ((gA x).g e) ((gA y).g e)⟩
  | .un o x => ⟨fun _ e => M.ofO (unF o ((gA x).g e)) M.pure⟩
  | .cvi k x => ⟨fun _ e => cviF k ((gA x).g e)⟩
  | .cvs x => ⟨fun _ e => cvsF ((gA x).g e)⟩
  | .cvb x => ⟨fun _ e => cvbF ((gA x).g e)⟩
  | .cvt x => ⟨fun _ e => cvtF ((gA x).g e)⟩
  | .cvm x => ⟨fun _ e => cvmF ((gA x).g e)⟩
  | .mkf fn a b => ⟨fun _ e => M.pure (.f fn ((gL a).g e) ((gL b).g e))⟩
  | .mks z cs l c => ⟨fun _ e => mksF z cs ((gA l).g e) ((gA c).g e)⟩
  | .sls w x lo hi mx => ⟨fun _ e => M.ofO (slsF w ((gA x).g e) ((gO lo).g e) ((gO hi).g e) ((gO mx).g e)) M.pure⟩
  | .sla w n x lo hi mx => ⟨fun _ e => M.ofO (slaF w n ((gA x).g e) ((gO lo).g e) ((gO hi).g e) ((gO mx).g e)) M.pure⟩
  | .slt x lo hi => ⟨fun _ e => M.ofO (sltF ((gA x).g e) ((gO lo).g e) ((gO hi).g e)) M.pure⟩
  | .fad off x => ⟨fun _ e => fadF off ((gA x).g e)⟩
  | .ixa n w x i => ⟨fun _ e => ixaF n w ((gA x).g e) ((gA i).g e)⟩
  | .ixs w x i => ⟨fun _ e => ixsF w ((gA x).g e) ((gA i).g e)⟩
  | .ext x j => ⟨fun _ e => extF ((gA x).g e) j⟩
  | .calv f l => ⟨fun F e => callF F ((gA f).g e) ((gL l).g e)⟩
  | .app z w s x => ⟨fun _ e => appF z w ((gA s).g e) ((gA x).g e)⟩
  | .apz z w cs s x => ⟨fun _ e => apzF z w cs ((gA s).g e) ((gA x).g e)⟩
  | .cpy w d x => ⟨fun _ e => cpyF w ((gA d).g e) ((gA x).g e)⟩
  | .clr cs d => ⟨fun _ e => clrF cs ((gA d).g e)⟩
  | .len x => ⟨fun _ e => M.ofO (lenF ((gA x).g e)) M.pure⟩
  | .lns x => ⟨fun _ e => M.ofO (lnsF ((gA x).g e)) M.pure⟩
  | .cap x => ⟨fun _ e => M.ofO (capF ((gA x).g e)) M.pure⟩
  | .mm mx x l => ⟨fun _ e => M.ofO (mmF mx ((gA x).g e) ((gL l).g e)) M.pure⟩
structure SV where
  v : Fn → E3 → M E3
noncomputable def pD (d : Option Nat) : Option P := match d with
  | none => some ⟨fun _ e => e⟩
  | some d => ptS d
noncomputable def dP (o : PO) (d : Option Nat) : SV := match pD d with
  | none => ⟨fun _ _ => M.no⟩
  | some p => ⟨fun F e => M.bind ((dO o).v F e) fun v => M.pure (p.p v e)⟩
noncomputable def dU (d : Option Nat) : SV := match pD d with
  | none => ⟨fun _ _ => M.no⟩
  | some p => ⟨fun F e => M.pure (p.p und e)⟩
noncomputable def sel (b : Bool) (F : Fn) (e : E3) (x y : SV) : M E3 := Bool.rec (motive := fun _ => Fn → E3 → SV → SV → M E3) (fun F e _ y => y.v F e) (fun F e x _ => x.v F e) b F e x y
noncomputable def dS (o : PS) : SV := match o.g with
  | none => dP o.o o.d
  | some (n, want) => match want with
    | true => ⟨fun F e => match (gtS n).g e with
      | .b t => sel t F e (dP o.o o.d) (dU o.d)
      | _ => (dU o.d).v F e⟩
    | false => ⟨fun F e => match (gtS n).g e with
      | .b t => sel t F e (dU o.d) (dP o.o o.d)
      | _ => (dU o.d).v F e⟩
noncomputable def dOps (l : List PS) : SV := match l with
  | [] => ⟨fun _ e => M.pure e⟩
  | o :: l => ⟨fun F e => M.bind ((dS o).v F e) fun e => (dOps l).v F e⟩
structure DV where
  v : Fn → List Ft → Nat → E3 → M E3
noncomputable def dDrw (l : List PS) (ms : List Nat) : DV := match l with
  | [] => ⟨fun _ _ _ e => M.pure e⟩
  | o :: l => match ms with
    | [] => ⟨fun _ _ _ _ => M.no⟩
    | m :: ms => ⟨fun F acc i e => M.bind (M.apart ((dS o).v F e)) fun x => match acc.any (clash m ⟨i, x.2.1, x.2.2⟩) with
      | true => M.no
      | false => (dDrw l ms).v F (⟨i, x.2.1, x.2.2⟩ :: acc) (i + 1) x.1⟩
structure CV where
  v : Fn → E3 → M (Option Ex × E3)
noncomputable def itQ (n : Nat) (b : E3 → M (Option Ex × E3)) (e : E3) : M (Option Ex × E3) := Nat.rec (motive := fun _ => E3 → M (Option Ex × E3)) (fun _ => M.no) (fun _ ih e => M.bind (b e) fun x => match x.1 with
    | none => ih x.2
    | some ex => M.pure (some ex, x.2)) n e
noncomputable def dC (c : PC) : CV := match c with
  | .skip => ⟨fun _ e => M.pure (none, e)⟩
  | .ret => ⟨fun _ e => M.pure (some .ret, e)⟩
  | .exit id => ⟨fun _ e => M.pure (some (.exit id), e)⟩
  | .seq a b => ⟨fun F e => M.bind ((dC a).v F e) fun x => match x.1 with
    | none => (dC b).v F x.2
    | some ex => M.pure (some ex, x.2)⟩
  | .cond c a b => ⟨fun F e => match (gA c).g e with
    | .b t => match t with
      | true => (dC a).v F e
      | false => (dC b).v F e
    | _ => M.no⟩
  | .block id b => ⟨fun F e => M.bind ((dC b).v F e) fun x => match x.1 with
    | none => M.pure (none, x.2)
    | some .ret => M.pure (some .ret, x.2)
    | some (.exit j) => match Nat.beq j id with
      | true => M.pure (none, x.2)
      | false => M.pure (some (.exit j), x.2)⟩
  | .loop b => ⟨fun F e => itQ rounds (fun e => (dC b).v F e) e⟩
  | .reg ops => ⟨fun F e => M.bind ((dOps ops).v F e) fun e => M.pure (none, e)⟩
  | .drw ops ms => ⟨fun F e => M.bind ((dDrw ops ms).v F [] 0 e) fun e => M.pure (none, e)⟩
structure RV where
  v : E3 → M (List AV)
noncomputable def dR (l : List PR) : RV := match l with
  | [] => ⟨fun _ => M.pure []⟩
  | r :: l => match r with
    | .t n => ⟨fun e => M.bind ((dR l).v e) fun vs => M.pure ((gtS n).g e :: vs)⟩
    | .c1 n => ⟨fun e => M.bind (ldF ((gtS n).g e)) fun v => M.bind ((dR l).v e) fun vs => M.pure (v :: vs)⟩
    | .cn m n => ⟨fun e => M.bind (ldnF m ((gtS n).g e)) fun v => M.bind ((dR l).v e) fun vs => M.pure (v :: vs)⟩
def e3 : E3 := N8.all (N8.all (N8.all und))
noncomputable def argQ (l : List AV) (i : Nat) (e : E3) : Option E3 := match l with
  | [] => some e
  | v :: l => match ptS i with
    | none => none
    | some p => argQ l (i + 1) (p.p v e)
structure WV where
  v : Fn → List AV → M AV
noncomputable def dW (own : Nat → List AV → M AV) (x : Option PF) : WV := match x with
  | none => ⟨fun _ _ => M.no⟩
  | some (.own k) => ⟨fun _ l => own k l⟩
  | some (.f body res) => ⟨fun F l => M.ofO (argQ l 0 e3) fun e => M.bind ((dC body).v F e) fun x => match x.1 with
    | some (.exit _) => M.no
    | _ => M.bind ((dR res).v x.2) fun vs => M.pure (oneR vs)⟩
noncomputable def runQ (own : Nat → List AV → M AV) (X : Nat → Option PF) (n : Nat) : Fn := match n with
  | 0 => ⟨fun _ _ => M.no⟩
  | n + 1 => ⟨fun f l => (dW own (X f)).v (runQ own X n) l⟩
def st0 : St := ⟨false, h6, Id.zero, [], []⟩
def isT (v : AV) : Bool := match v with
  | .b x => x
  | _ => false
noncomputable def ask (own : Nat → List AV → M AV) (X : Nat → Option PF) (n f : Nat) : Bool := (runQ own X n).fn f [] st0 fun v _ => isT v
/-- Range rows: one element in place of those from i to j -/
noncomputable def replB (vid : Id) (i j : Nat) (v : List AV) (s : AV) : M AV := match s with
  | .s0 => M.ifB (Nat.beq i 0 && Nat.beq j 0) (M.bind (M.new ⟨false, true, false⟩ v) fun id => M.pure (.so id 0 1 1 2))
  | .so id off n q w => M.ifB (((Nat.beq off 0 && Nat.ble 1 q) && Nat.beq w 2) && (Nat.ble i j && (Nat.ble j n && (Nat.ble n lim && !Nat.beq id.num vid.num)))) (M.bind (M.shared id) fun z => M.ifB (!z.s && z.b)
      (M.bind (M.rd id 0 (n * 2)) fun old => M.bind (M.over id 0 (i * 2) (v ++ old.drop (j * 2))) fun id =>
        M.pure (.so id 0 (i + 1 + (n - j)) (i + 1 + (n - j)) 2)))
  | _ => M.no
noncomputable def replV (s i j : AV) (v : AV) : M AV := match v with
  | .sl vid off n c => M.ifB (Nat.beq off 0 && (Nat.beq n 1 && Nat.beq c 1)) (M.ofO (nat64 i) fun i => M.ofO (nat64 j) fun j => M.bind (M.ends vid) fun zv => M.ifB ((!zv.1.s && Nat.beq zv.2 2) && (zv.1.b && zv.1.t)) (M.bind (M.rd vid 0 2) fun v => replB vid i j v s))
  | _ => M.no
noncomputable def replQ (_k : Nat) (l : List AV) : M AV := match l with
  | [s, i, j, v] => replV s i j v
  | _ => M.no
end Kq
end Ev
end Go.Proofs.Ytijnjnncgkhabaa
