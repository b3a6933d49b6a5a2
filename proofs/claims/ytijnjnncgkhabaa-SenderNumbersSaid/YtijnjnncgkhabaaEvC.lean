/- DERIVED. The evaluator's code, made of the program's: types looked up, slots bounded, in drawn regions the order's own waits. -/
import Derived.Test.YtijnjnncgkhabaaEvS
set_option linter.unusedVariables false
namespace Go.Proofs.Ytijnjnncgkhabaa
namespace Ev

/-- types by number; which are compared by their cells -/
structure Ty where
  t : TypeId → Option TypeInfo
  q : TypeId → Bool
def descT (Y : Ty) (i : TypeInfo) : Option TypeDesc := match i.desc with
  | .named _ u => (Y.t u).bind fun j => some j.desc
  | d => some d
def under (Y : Ty) (t : TypeId) : Option TypeDesc := (Y.t t).bind fun i => descT Y i
def sizeT (Y : Ty) (t : TypeId) : Option Nat := (Y.t t).bind fun i => some i.size
def isB (d : TypeDesc) : Bool := match d with
  | .int .u8 => true
  | _ => false
def byteT (Y : Ty) (t : TypeId) : Option Bool := (under Y t).bind fun d => some (isB d)
def guardB (b : Bool) : Option Unit := match b with
  | true => some ()
  | false => none
def ofC (v : Value) : Option AV := match v with
  | .bool x => some (.b x)
  | .int k x => some (.i k x)
  | .string x => some (.s (x.data.toList.map fun b => b.toNat))
  | .pointer none => some .p0
  | .slice none 0 0 => some .s0
  | .nilFunc => some .f0
  | .nilIface => some .i0
  | _ => none
def ofCs (l : List Value) : Option (List AV) := match l with
  | [] => some []
  | v :: l => (ofC v).bind fun a => (ofCs l).bind fun as => some (a :: as)
def ofV (v : Value) : Option AV := match v with
  | .agg cs => (ofCs cs.toList).bind fun l => some (.ag l)
  | .tuple vs => match vs.toList with
    | [] => some (.tu [])
    | _ => none
  | v => ofC v
def zeroT (Y : Ty) (t : TypeId) : Option (List AV) := (Y.t t).bind fun i => i.zero.bind fun v => (ofV v).bind fun a => a.cells.bind fun l => (guardB (Nat.beq l.length i.size)).bind fun _ => some l
def cA (x : Operand) : Option Arg := match x with
  | .tmp t => some (.t t)
  | .const v => (ofV v).bind fun a => some (.c a)
  | .func f => some (.c (.f f [] []))
  | .global _ => none
def cAs (l : List Operand) : Option (List Arg) := match l with
  | [] => some []
  | x :: l => (cA x).bind fun a => (cAs l).bind fun as => some (a :: as)
def cO (x : Option Operand) : Option (Option Arg) := match x with
  | none => some none
  | some x => (cA x).bind fun a => some (some a)
def cPs (place : Nat → Option (Nat × Nat)) (l : List (Nat × Operand)) : Option (List Part) := match l with
  | [] => some []
  | jx :: l => (place jx.1).bind fun om => (cA jx.2).bind fun a => (cPs place l).bind fun as => some (⟨om.1, om.2, a⟩ :: as)
def fldP (Y : Ty) (fs : List Field) : Option (List (Nat × Nat)) := match fs with
  | [] => some []
  | f :: fs => (sizeT Y f.type).bind fun m => (fldP Y fs).bind fun l => some ((f.offset, m) :: l)
def isAggD (d : TypeDesc) : Bool := match d with
  | .struct _ => true
  | .array _ _ => true
  | _ => false
def sliceD (d : TypeDesc) : Option TypeId := match d with
  | .slice e => some e
  | _ => none
def elemS (Y : Ty) (t : TypeId) : Option TypeId := (under Y t).bind sliceD
/-- an element's cells and bytes are some, and not too many -/
def okE (i : TypeInfo) : Bool := Nat.ble i.bytes lim && (Nat.ble 1 i.bytes && Nat.ble 1 i.size)
def isIntD (d : TypeDesc) : Bool := match d with
  | .int _ => true
  | _ => false
def cApp (Y : Ty) (sT xT : TypeId) (s x : Operand) : Option PO := (elemS Y sT).bind fun el => (Y.t el).bind fun i => (guardB (okE i)).bind fun _ =>
  (under Y xT).bind fun d => (byteT Y el).bind fun z => (zeroT Y el).bind fun cs => (cA s).bind fun s => (cA x).bind fun x => match d with
    | .int _ => some (.apz z i.size cs s x)
    | .slice _ => some (.app z i.size s x)
    | .string => some (.app z i.size s x)
    | _ => none
def cLen (Y : Ty) (t : TypeId) (x : Operand) : Option PO := (under Y t).bind fun d => (cA x).bind fun a => match d with
  | .string => some (.lns a)
  | .slice _ => some (.len a)
  | .array n _ => some (.mv (.c (.i .i64 (.ofNat n))))
  | _ => none
def cCap (Y : Ty) (t : TypeId) (x : Operand) : Option PO := (under Y t).bind fun d => (cA x).bind fun a => match d with
  | .slice _ => some (.cap a)
  | .array n _ => some (.mv (.c (.i .i64 (.ofNat n))))
  | _ => none
def cBuiltin (Y : Ty) (b : Builtin) (ts : List TypeId) (xs : List Operand) : Option PO := match b with
  | .append => match ts with
    | [sT, xT] => match xs with
      | [s, x] => cApp Y sT xT s x
      | _ => none
    | _ => none
  | .copy => match ts with
    | [dT, _] => match xs with
      | [d, x] => (elemS Y dT).bind fun el => (sizeT Y el).bind fun w => (cA d).bind fun d => (cA x).bind fun x => some (.cpy w d x)
      | _ => none
    | _ => none
  | .clear => match ts with
    | [t] => match xs with
      | [d] => (elemS Y t).bind fun el => (zeroT Y el).bind fun cs => (cA d).bind fun d => some (.clr cs d)
      | _ => none
    | _ => none
  | .len => match ts with
    | [t] => match xs with
      | [x] => cLen Y t x
      | _ => none
    | _ => none
  | .cap => match ts with
    | [t] => match xs with
      | [x] => cCap Y t x
      | _ => none
    | _ => none
  | .max => match xs with
    | x :: l => (cA x).bind fun x => (cAs l).bind fun l => some (.mm true x l)
    | _ => none
  | .min => match xs with
    | x :: l => (cA x).bind fun x => (cAs l).bind fun l => some (.mm false x l)
    | _ => none
  | _ => none
def cCall (Y : Ty) (c : Call) : Option PO := match c.callee with
  | .invoke _ _ => none
  | .value f => (cA f).bind fun f => (cAs c.args.toList).bind fun l => some (.calv f l)
  | .builtin b => cBuiltin Y b c.argTypes.toList c.args.toList
/-- of what kind a type's equality is -/
def eqD (Y : Ty) (t : TypeId) (d : TypeDesc) : Option Nat := match d with
  | .bool => some 0
  | .pointer el => (sizeT Y el).bind fun m => match m with
    | 0 => none
    | _ + 1 => some 1
  | .slice _ => some 2
  | .func _ _ _ => some 3
  | .struct _ => (guardB (Y.q t)).bind fun _ => (sizeT Y t).bind fun m => some (m + 4)
  | .array _ _ => (guardB (Y.q t)).bind fun _ => (sizeT Y t).bind fun m => some (m + 4)
  | _ => none
def numD (d : TypeDesc) : Bool := match d with
  | .int _ => true
  | .string => true
  | _ => false
def cEq (Y : Ty) (o : BinOp) (ng : Bool) (t : TypeId) (x y : Operand) : Option PO := (under Y t).bind fun d => (cA x).bind fun x => (cA y).bind fun y => match numD d with
  | true => some (.bin o x y)
  | false => (eqD Y t d).bind fun kd => some (.eq kd ng x y)
def cBin (Y : Ty) (o : BinOp) (t : TypeId) (x y : Operand) : Option PO := match o with
  | .eql => cEq Y .eql false t x y
  | .neq => cEq Y .neq true t x y
  | o => (cA x).bind fun x => (cA y).bind fun y => some (.bin o x y)
def cConv (Y : Ty) (s d : TypeId) (x : Operand) : Option PO := (under Y s).bind fun sd => (under Y d).bind fun dd => (cA x).bind fun a => match sd with
  | .int _ => match dd with
    | .int k => some (.cvi k a)
    | _ => none
  | .string => match dd with
    | .string => some (.cvs a)
    | .slice e => (byteT Y e).bind fun z => (guardB z).bind fun _ => some (.cvb a)
    | _ => none
  | .slice e => match dd with
    | .string => (byteT Y e).bind fun z => (guardB z).bind fun _ => some (.cvt a)
    | .slice e => (byteT Y e).bind fun z => (guardB z).bind fun _ => (guardB (Nat.beq s d)).bind fun _ => some (.cvm a)
    | _ => none
  | _ => none
def cSlice (Y : Ty) (t : TypeId) (x : Operand) (lo hi mx : Option Operand) : Option PO := (under Y t).bind fun d => (cA x).bind fun x => (cO lo).bind fun lo => (cO hi).bind fun hi => (cO mx).bind fun mx =>
  (guardB (mx.isNone || hi.isSome)).bind fun _ => match d with
  | .string => (guardB mx.isNone).bind fun _ => some (.slt x lo hi)
  | .slice el => (sizeT Y el).bind fun w => some (.sls w x lo hi mx)
  | .array n el => (sizeT Y el).bind fun w => some (.sla w n x lo hi mx)
  | _ => none
def cIx (Y : Ty) (t : TypeId) (x ix : Operand) : Option PO := (under Y t).bind fun d => (cA x).bind fun x => (cA ix).bind fun ix => match d with
  | .array n el => (sizeT Y el).bind fun w => some (.ixa n w x ix)
  | .slice el => (sizeT Y el).bind fun w => some (.ixs w x ix)
  | _ => none
def cFad (Y : Ty) (t : TypeId) (x : Operand) (j : Nat) : Option PO := (under Y t).bind fun d => (cA x).bind fun x => match d with
  | .struct fs => fs.toList[j]?.bind fun f => (sizeT Y f.type).bind fun m => (guardB (Nat.ble 1 m)).bind fun _ => some (.fad f.offset x)
  | _ => none
def cBuild (Y : Ty) (t : TypeId) (parts : List (Nat × Operand)) : Option PO := (under Y t).bind fun d => (zeroT Y t).bind fun cs => match d with
  | .struct fs => (fldP Y fs.toList).bind fun pl => (cPs (fun j => pl[j]?) parts).bind fun ps => some (.build cs ps)
  | .array _ el => (sizeT Y el).bind fun m => (cPs (fun j => some (j * m, m)) parts).bind fun ps => some (.build cs ps)
  | _ => none
def cBsl (Y : Ty) (t : TypeId) (len : Nat) (parts : List (Nat × Operand)) : Option PO := (elemS Y t).bind fun el => (sizeT Y el).bind fun m => (guardB (Nat.ble (len * m) lim)).bind fun _ => (byteT Y el).bind fun z => (zeroT Y el).bind fun cs =>
  (cPs (fun j => some (j * m, m)) parts).bind fun ps => some (.bsl z (repL cs len) len ps)
def cMks (Y : Ty) (t : TypeId) (l c : Operand) : Option PO := (elemS Y t).bind fun el => (Y.t el).bind fun i => (guardB (Nat.ble i.bytes lim)).bind fun _ => (byteT Y el).bind fun z => (zeroT Y el).bind fun cs => (cA l).bind fun l => (cA c).bind fun c => some (.mks z cs l c)
def cLoad (Y : Ty) (t : TypeId) (x : Operand) : Option PO := (under Y t).bind fun d => (sizeT Y t).bind fun m => (cA x).bind fun a => match isAggD d with
  | true => some (.ldn m a)
  | false => some (.ld1 a)
def cMkf (fn : Fn) (first cap : List Operand) : Option PO := match fn with
  | .func f => (cAs first).bind fun a => (cAs cap).bind fun b => some (.mkf f a b)
  | _ => none
def cOp (Y : Ty) (o : Op) : Option PO := match o with
  | .move x => (cA x).bind fun a => some (.mv a)
  | .assign x => (cA x).bind fun a => some (.mv a)
  | .pick c a b => (cA c).bind fun c => (cA a).bind fun a => (cA b).bind fun b => some (.pick c a b)
  | .alloc t => (byteT Y t).bind fun z => (zeroT Y t).bind fun cs => some (.new z cs)
  | .box t x => (byteT Y t).bind fun z => (cA x).bind fun a => some (.box z a)
  | .build t parts => cBuild Y t parts.toList
  | .buildSlice t len parts => cBsl Y t len parts.toList
  | .load t a => cLoad Y t a
  | .store t a x => (sizeT Y t).bind fun m => (cA a).bind fun a => (cA x).bind fun x => some (.st m a x)
  | .nilCheck x => (cA x).bind fun a => some (.nilc a)
  | .binOp o' t x y _ => cBin Y o' t x y
  | .unOp o' _ x => (cA x).bind fun a => some (.un o' a)
  | .convert s d x => cConv Y s d x
  | .makeFunc fn first cap => cMkf fn first.toList cap.toList
  | .makeSlice t l c => cMks Y t l c
  | .slice t x lo hi mx => cSlice Y t x lo hi mx
  | .fieldAddr t x j => cFad Y t x j
  | .indexAddr t x ix => cIx Y t x ix
  | .extract x j => (cA x).bind fun a => some (.ext a j)
  | .call c => cCall Y c
  | _ => none
/-- what an operation waits for, all told, by bits; acc: the masks of those ahead, the last first -/
def ancL (acc : List Nat) (l : List Edge) : Nat := match l with
  | [] => 0
  | ed :: l => match Region.binds .any ed && Nat.blt ed.on acc.length with
    | true => Nat.lor (ancL acc l) (Nat.lor (Nat.shiftLeft 1 ed.on) (acc[acc.length - 1 - ed.on]?.getD 0))
    | false => ancL acc l
def anc (acc : List Nat) (l : List Oper) : List Nat := match l with
  | [] => acc.reverse
  | o :: l => anc (ancL acc o.after.toList :: acc) l
def cG (N : Nat) (ops : List Oper) (g : Option (Nat × Bool)) : Option (Option (Nat × Bool)) := match g with
  | none => some none
  | some jw => ops[jw.1]?.bind fun o' => o'.dst.bind fun gd => (guardB (Nat.blt gd N)).bind fun _ => some (some (gd, jw.2))
def dstOk (N : Nat) (d : Option Tmp) : Bool := match d with
  | none => true
  | some d => Nat.blt d N
def cS (Y : Ty) (N : Nat) (ops : List Oper) (o : Oper) : Option PS := (cOp Y o.op).bind fun p => (cG N ops o.guard).bind fun g => (guardB (dstOk N o.dst)).bind fun _ => some ⟨g, o.dst, p⟩
def cSs (Y : Ty) (N : Nat) (ops l : List Oper) : Option (List PS) := match l with
  | [] => some []
  | o :: l => (cS Y N ops o).bind fun a => (cSs Y N ops l).bind fun as => some (a :: as)
def tmpsA (x : Arg) : List Nat := match x with
  | .t n => [n]
  | .c _ => []
def tmpsAs (l : List Arg) : List Nat := l.flatMap tmpsA
def tmpsO (x : Option Arg) : List Nat := match x with
  | none => []
  | some x => tmpsA x
def tmpsP (o : PO) : List Nat := match o with
  | .mv x => tmpsA x
  | .pick c a b => tmpsA c ++ (tmpsA a ++ tmpsA b)
  | .new _ _ => []
  | .box _ x => tmpsA x
  | .build _ ps => ps.flatMap fun p => tmpsA p.x
  | .bsl _ _ _ ps => ps.flatMap fun p => tmpsA p.x
  | .ld1 a => tmpsA a
  | .ldn _ a => tmpsA a
  | .st _ a v => tmpsA a ++ tmpsA v
  | .nilc x => tmpsA x
  | .bin _ x y => tmpsA x ++ tmpsA y
  | .eq _ _ x y => tmpsA x ++ tmpsA y
  | .un _ x => tmpsA x
  | .cvi _ x => tmpsA x
  | .cvs x => tmpsA x
  | .cvb x => tmpsA x
  | .cvt x => tmpsA x
  | .cvm x => tmpsA x
  | .mkf _ a b => tmpsAs a ++ tmpsAs b
  | .mks _ _ l c => tmpsA l ++ tmpsA c
  | .sls _ x lo hi mx => tmpsA x ++ (tmpsO lo ++ (tmpsO hi ++ tmpsO mx))
  | .sla _ _ x lo hi mx => tmpsA x ++ (tmpsO lo ++ (tmpsO hi ++ tmpsO mx))
  | .slt x lo hi => tmpsA x ++ (tmpsO lo ++ tmpsO hi)
  | .fad _ x => tmpsA x
  | .ixa _ _ x i => tmpsA x ++ tmpsA i
  | .ixs _ x i => tmpsA x ++ tmpsA i
  | .ext x _ => tmpsA x
  | .calv f l => tmpsA f ++ tmpsAs l
  | .app _ _ s x => tmpsA s ++ tmpsA x
  | .apz _ _ _ s x => tmpsA s ++ tmpsA x
  | .cpy _ d x => tmpsA d ++ tmpsA x
  | .clr _ d => tmpsA d
  | .len x => tmpsA x
  | .lns x => tmpsA x
  | .cap x => tmpsA x
  | .mm _ x l => tmpsA x ++ tmpsAs l
/-- the slots that an operation reads -/
def readsS (o : PS) : List Nat := match o.g with
  | none => tmpsP o.o
  | some g => g.1 :: tmpsP o.o
def apartS (a b : PS) : Bool := match a.d with
  | none => true
  | some d => !(readsS b).contains d && !(b.d == some d)
/-- operations that do not wait for each other name no slot of each other's -/
def slotsOk (ops : List PS) (ms : List Nat) : Bool :=
  (List.range ops.length).all fun j => (List.range j).all fun i =>
    Nat.testBit (ms[j]?.getD 0) i || (match ops[i]? with
      | some a => match ops[j]? with
        | some b => apartS a b && apartS b a
        | none => false
      | none => false)
/-- each operation waits for earlier ones alone -/
def backOk (k : Nat) (l : List Oper) : Bool := match l with
  | [] => true
  | o :: l => (o.after.toList.all fun ed => !Region.binds .any ed || Nat.blt ed.on k) && backOk (k + 1) l
def cC (Y : Ty) (N : Nat) (c : Code) : Option PC := match c with
  | .skip => some .skip
  | .ret => some .ret
  | .exit id => some (.exit id)
  | .seq a b => (cC Y N a).bind fun a => (cC Y N b).bind fun b => some (.seq a b)
  | .cond x a b => (cA x).bind fun x => (cC Y N a).bind fun a => (cC Y N b).bind fun b => some (.cond x a b)
  | .block id b => (cC Y N b).bind fun p => some (.block id p)
  | .loop b => (cC Y N b).bind fun p => some (.loop p)
  | .region _ ops d => (cSs Y N ops.toList ops.toList).bind fun l => match d with
    | false => some (.reg l)
    | true => (guardB (slotsOk l (anc [] ops.toList) && backOk 0 ops.toList)).bind fun _ => some (.drw l (anc [] ops.toList))
  | _ => none
def cR (Y : Ty) (r : ResultVar) : Option PR := match r with
  | .tmp t => some (.t t)
  | .cell a t => (under Y t).bind fun d => (sizeT Y t).bind fun m => match isAggD d with
      | true => some (.cn m a)
      | false => some (.c1 a)
def cRs (Y : Ty) (l : List ResultVar) : Option (List PR) := match l with
  | [] => some []
  | r :: l => (cR Y r).bind fun a => (cRs Y l).bind fun as => some (a :: as)
def cF (Y : Ty) (fn : Func) : Option PF := fn.body.bind fun c => (cC Y fn.ntmps c).bind fun b => (cRs Y fn.results.toList).bind fun rs => some (.f b rs)
end Ev
end Go.Proofs.Ytijnjnncgkhabaa
