/- The translation of the model's code into abstract code, and the predicate transformer. -/
import Derived.Test.YtlmplofpclaokaaSimDef
namespace Go.Proofs.Ytlmplofpclaokaa
set_option autoImplicit false

/-! ### Translation -/
def constAV1 : Value → Option AV
  | .int k n => some (.int k n)
  | .bool b => some (.bool b)
  | .string s => some (.str s.data.toList)
  | .slice none 0 0 => some .nilS
  | .pointer none => some .nilP
  | .nilFunc => some .nilF
  | .nilIface => some .nilI
  | _ => none

def constL : List Value → Option (List AV)
  | [] => some []
  | v :: vs => (constAV1 v).bind fun a => (constL vs).bind fun as => some (a :: as)

def constAV : Value → Option AV
  | .agg cs => (constL cs.toList).map AV.agg
  | v => constAV1 v

def constCells : Value → Option (List AV)
  | .agg cs => constL cs.toList
  | v => (constAV1 v).map fun a => [a]

def cx : Operand → X
  | .tmp t => .t t
  | .const v => match constAV v with | some a => .c a | none => .bad
  | .func f => .c (.clo f [] [])
  | .global _ => .bad

def optX : Option Operand → Option X
  | none => none
  | some x => some (cx x)

def cxL : List Operand → List X
  | [] => []
  | x :: xs => cx x :: cxL xs

def isAggD : TypeDesc → Bool
  | .struct _ => true
  | .array _ _ => true
  | _ => false

def aggSize (P : Program) (t : TypeId) : Option (Option Nat) :=
  match P.underlying t, P.info? t with
  | some d, some i => if isAggD d then some (some i.size) else some none
  | _, _ => none

/-- The shape of a struct's fields: they lie one behind the other, and all count. -/
def shapeFields (P : Program) (F : TypeId → Option (List SK)) : List Field → Nat → Option (List SK)
  | [], _ => some []
  | f :: fs, pos => (F f.type).bind fun l => (aggSize P f.type).bind fun n =>
    if f.name ≠ "_" ∧ f.offset = pos ∧ l.length = n.getD 1 then (shapeFields P F fs (pos + l.length)).bind fun r => some (l ++ r) else none

/-- The shape of a type whose values are compared cell by cell. -/
def shapeOf (P : Program) : Nat → TypeId → Option (List SK)
  | 0, _ => none
  | d + 1, t =>
    match P.underlying t with
    | some (.int k) => some [.i k]
    | some .bool => some [.b]
    | some .string => some [.s]
    | some (.array n e) => (shapeOf P d e).bind fun l => (aggSize P e).bind fun m => match P.info? e with
      | some i => if l.length = m.getD 1 ∧ i.size = l.length then some ((List.replicate n l).flatten) else none
      | none => none
    | some (.struct fs) => if P.stoodInHeld t then none else shapeFields P (shapeOf P d) fs.toList 0
    | _ => none

def places (P : Program) (fs : Array Field) (i : Nat) : Option (Nat × Nat) :=
  match fs[i]? with
  | some f => match P.info? f.type with | some k => some (f.offset, k.size) | none => none
  | none => none

def partsOf (pl : Nat → Option (Nat × Nat)) : List (Nat × Operand) → Option (List (Nat × Nat × X))
  | [] => some []
  | (i, x) :: r => (pl i).bind fun p => (partsOf pl r).bind fun l => some ((p.1, p.2, cx x) :: l)

def parts2 : List (Nat × Operand) → List (Nat × X)
  | [] => []
  | (i, x) :: r => (i, cx x) :: parts2 r

def sameX : Operand → Operand → Bool
  | .tmp a, .tmp b => a == b
  | .const (.int .i64 a), .const (.int .i64 b) => a == b
  | _, _ => false

def extName (n : String) : Option EK :=
  if n = "internal/bytealg.CountString" then some .cnt
  else if n = "internal/bytealg.IndexByteString" then some .ixb
  else if n = "internal/bytealg.abigen_runtime_cmpstring" then some .cmp
  else if n = "internal/abi.NoEscape" then some .same
  else none

def extOf (P : Program) (f : Nat) : Option EK :=
  match P.funcs[f]? with
  | some fn => if fn.body.isNone && (Extern.findNext fn).isNone then extName fn.name else none
  | none => none

def compCall (P : Program) (c : Call) : CO :=
  match c.callee with
  | .value (.func f) => match extOf P f with
    | some k => .ext k (cxL c.args.toList)
    | none => .call f (cxL c.args.toList)
  | .value (.tmp t) => .callv (.t t) (cxL c.args.toList)
  | .builtin .len =>
    match c.args.toList, c.argTypes.toList with
    | [x], [t] => match P.underlying t with
      | some .string => .len true (cx x)
      | some (.slice _) => .len false (cx x)
      | _ => .bad
    | _, _ => .bad
  | .builtin .append =>
    match c.args.toList, c.argTypes.toList with
    | [x, y], [t, u] => match P.underlying t, P.underlying u with
      | some (.slice e), some (.slice _) => match P.info? e with
        | some i => match i.zero with
          | some z => match constCells z with
            | some zs => if zs.length = i.size ∧ i.bytes ≠ 0 then .append e false i.size i.bytes (cx x) (cx y) else .bad
            | none => .bad
          | none => .bad
        | none => .bad
      | some (.slice e), some .string => match P.info? e with
        | some i => match i.zero with
          | some z => match constCells z with
            | some zs => if zs.length = i.size ∧ i.size = 1 ∧ i.bytes ≠ 0 then .append e true i.size i.bytes (cx x) (cx y) else .bad
            | none => .bad
          | none => .bad
        | none => .bad
      | _, _ => .bad
    | _, _ => .bad
  | .builtin .unsafeSliceData => match c.args.toList with
    | [x] => .sdata (cx x)
    | _ => .bad
  | .builtin .unsafeString => match c.args.toList, c.argTypes.toList with
    | [x, y], [t, _] => match P.underlying t with
      | some (.pointer e) => if P.cellsOf e = 1 then .ustr e (cx x) (cx y) else .bad
      | _ => .bad
    | _, _ => .bad
  | .builtin .max => .mm true (cxL c.args.toList)
  | .builtin .min => .mm false (cxL c.args.toList)
  | _ => .bad

def isNilSl : Operand → Bool
  | .const (.slice none 0 0) => true
  | _ => false

def isNilPt : Operand → Bool
  | .const (.pointer none) => true
  | _ => false

def eqNeg : BinOp → Option Bool
  | .eql => some false
  | .neq => some true
  | _ => none

def compBin (P : Program) (op : BinOp) (t : TypeId) (x y : Operand) : CO :=
  match P.underlying t with
  | none => .bad
  | some d => match d with
    | .int _ => .bin op (cx x) (cx y)
    | .string => .bin op (cx x) (cx y)
    | .bool => match eqNeg op with
      | some n => .beq n (cx x) (cx y)
      | none => .bad
    | .slice _ => match eqNeg op with
      | some n => if isNilSl y then .ncmpS n (cx x) else .bad
      | none => .bad
    | .pointer e => match eqNeg op with
      | some n => if isNilPt y then .ncmpP n (cx x) else match P.info? e with
        | some _ => .peq n (cx x) (cx y)
        | none => .bad
      | none => .bad
    | _ => match eqNeg op, shapeOf P 8 t with
      | some n, some sh => if isAggD d && !(P.eqGuardType P.depth t) && ((P.info? t).any fun i => i.size == sh.length) then .aeq n sh (cx x) (cx y) else .bad
      | _, _ => .bad

/-- 'lit': a slice that is written out is to be owned. -/
def compOp (P : Program) (lit : Bool) (op : Op) : CO :=
  match op with
  | .move x => .mv (cx x)
  | .assign x => .mv (cx x)
  | .pick c a b => .pick (cx c) (cx a) (cx b)
  | .alloc t => match P.info? t with
    | some i => match i.zero with
      | some z => match constCells z with
        | some zs => if allCells zs then .allc t zs else .bad
        | none => .bad
      | none => .bad
    | none => .bad
  | .box t x => .box t (cx x)
  | .build t ps => match P.info? t with
    | some i => match i.zero with
      | some z => match constCells z with
        | some zs => match P.underlying t with
          | some (.struct fs) => if fs.toList.all (fun f => (P.info? f.type).isSome) then match partsOf (places P fs) ps.toList with
              | some l => .build zs l
              | none => .bad
            else .bad
          | some (.array _ e) => match P.info? e with
            | some k => match partsOf (fun i => some (i * k.size, k.size)) ps.toList with
              | some l => .build zs l
              | none => .bad
            | none => .bad
          | _ => .bad
        | none => .bad
      | none => .bad
    | none => .bad
  | .buildSlice t n ps => match P.underlying t with
    | some (.slice e) => match P.info? e with
      | some i => match i.zero with
        | some z => match constCells z with
          | some zs => if zs.length = i.size ∧ i.size ≠ 0 ∧ n * i.size ≤ 16777216 then (if lit then .bsliceO e i.size n zs (parts2 ps.toList) else .bslice e i.size n zs (parts2 ps.toList)) else .bad
          | none => .bad
        | none => .bad
      | none => .bad
    | _ => .bad
  | .load t x => match aggSize P t with
    | some n => .load n (cx x)
    | none => .bad
  | .store t x y => match P.info? t with
    | some i => .store i.size (cx x) (cx y)
    | none => .bad
  | .nilCheck x => .nilck (cx x)
  | .binOp op t x y _ => compBin P op t x y
  | .unOp op _ x => .un op (cx x)
  | .convert src dst x => match P.underlying src, P.underlying dst with
    | some (.int _), some (.int k) => .conv k (cx x)
    | some .string, some .string => .convS (cx x)
    | some (.slice e), some .string => match P.underlying e with
      | some (.int .u8) => .bytesS (cx x)
      | _ => .bad
    | some (.pointer t), some .unsafePointer => match P.info? t with
      | some j => if j.size ≠ 0 then .idu (cx x) else .bad
      | none => .bad
    | some .unsafePointer, some (.pointer u) => match P.info? u with
      | some j => if P.cellsOf u ≠ 0 ∧ j.size ≠ 0 then .idf u (P.cellsOf u) (cx x) else .bad
      | none => .bad
    | _, _ => .bad
  | .makeFunc (.func f) first caps => .mkfn f (cxL first.toList) (cxL caps.toList)
  | .makeSlice t l c => if sameX l c then match P.underlying t with
      | some (.slice e) => match P.info? e with
        | some i => match i.zero with
          | some z => match constCells z with
            | some zs => if zs.length = i.size ∧ i.size ≠ 0 ∧ i.bytes ≠ 0 ∧ allCells zs then .mks e i.size i.bytes zs (cx l) else .bad
            | none => .bad
          | none => .bad
        | none => .bad
      | _ => .bad
    else .bad
  | .slice t x lo hi mx => match mx with
    | some _ => .bad
    | none => match P.underlying t with
      | some .string => .slice none (cx x) (optX lo) (optX hi)
      | some (.slice e) => match P.info? e with
        | some i => .slice (some i.size) (cx x) (optX lo) (optX hi)
        | none => .bad
      | _ => .bad
  | .fieldAddr t x f => match P.underlying t with
    | some (.struct fs) => match fs[f]? with
      | some fd => match P.info? fd.type with
        | some k => if k.size = 0 then .bad else .faddr fd.offset (cx x)
        | none => .bad
      | none => .bad
    | _ => .bad
  | .field t x f => match P.underlying t with
    | some (.struct fs) => match fs[f]? with
      | some fd => match aggSize P fd.type with
        | some n => .field fd.offset n (cx x)
        | none => .bad
      | none => .bad
    | _ => .bad
  | .indexAddr t x i => match P.underlying t with
    | some (.slice e) => match P.info? e with
      | some k => .iaddr k.size (cx x) (cx i)
      | none => .bad
    | some (.array n e) => match P.info? e with
      | some k => .iarr n k.size (cx x) (cx i)
      | none => .bad
    | _ => .bad
  | .index t x i => match P.underlying t with
    | some .string => .idx (cx x) (cx i)
    | some (.array n e) => match P.info? e, aggSize P e with
      | some k, some m => .idxA n k.size m (cx x) (cx i)
      | _, _ => .bad
    | _ => .bad
  | .extract x i => .extr (cx x) i
  | .call c => compCall P c
  | _ => .bad

def guardOf (ops : Array Oper) : Option (Nat × Bool) → Option (Option (Nat × Bool))
  | none => some none
  | some (j, q) => match ops[j]? with
    | some o => match o.dst with
      | some d => some (some (d, q))
      | none => none
    | none => none

def litOf (fl : List Nat) (d : Option Nat) : Bool :=
  match d with
  | some d => fl.contains d
  | none => false

def compOper (P : Program) (fl : List Nat) (ops : Array Oper) (o : Oper) : COp :=
  match guardOf ops o.guard with
  | some g => { dst := o.dst, guard := g, co := compOp P (litOf fl o.dst) o.op }
  | none => { dst := o.dst, guard := none, co := .bad }

def compOps (P : Program) (fl : List Nat) (ops : Array Oper) : List Oper → List COp
  | [] => []
  | o :: r => compOper P fl ops o :: compOps P fl ops r

/-! ### Abstract code -/
inductive C where
  | skip
  | reg (ops : List COp)
  | dreg (pre post : List COp)
  | seq (a b : C)
  | cond (x : X) (a b : C)
  | block (id : Nat) (b : C)
  | loop (b : C)
  | exit (id : Nat)
  | scope (b : C)
  | label (l : Nat)
  | goto (l : Nat)
  | ret
  | bad

def X.looks : X → List Nat
  | .t n => [n]
  | _ => []
def looksL : List X → List Nat
  | [] => []
  | x :: xs => x.looks ++ looksL xs
def looks3 : List (Nat × Nat × X) → List Nat
  | [] => []
  | (_, _, x) :: xs => x.looks ++ looks3 xs
def looks2 : List (Nat × X) → List Nat
  | [] => []
  | (_, x) :: xs => x.looks ++ looks2 xs
def looksO : Option X → List Nat
  | none => []
  | some x => x.looks
def CO.looks : CO → List Nat
  | .mv x | .box _ x | .idu x | .idf _ _ x | .sdata x | .ncmpS _ x | .ncmpP _ x | .load _ x | .faddr _ x | .field _ _ x | .un _ x | .conv _ x | .convS x | .bytesS x | .mks _ _ _ _ x | .len _ x | .extr x _ | .nilck x => x.looks
  | .pick c a b => c.looks ++ a.looks ++ b.looks
  | .allc _ _ | .bad => []
  | .store _ x y | .iaddr _ x y | .iarr _ _ x y | .idx x y | .idxA _ _ _ x y | .bin _ x y | .beq _ x y | .aeq _ _ x y | .append _ _ _ _ x y | .peq _ x y | .ustr _ x y => x.looks ++ y.looks
  | .build _ ps => looks3 ps
  | .bslice _ _ _ _ ps | .bsliceO _ _ _ _ ps => looks2 ps
  | .slice _ x lo hi => x.looks ++ looksO lo ++ looksO hi
  | .mm _ xs | .ext _ xs | .call _ xs => looksL xs
  | .mkfn _ us vs => looksL us ++ looksL vs
  | .callv f xs => f.looks ++ looksL xs
def COp.looks (o : COp) : List Nat := (match o.guard with | some (g, _) => [g] | none => []) ++ o.co.looks

/-- Bit i of entry j: operation i comes before operation j in every order. -/
def bitOf (b : Array Nat) (j i : Nat) : Bool := (b.getD j 0).testBit i

def edgesBack (ops : Array Oper) : Bool :=
  ops.toList.zipIdx.all fun (o, j) => o.after.toList.all fun e => !Region.binds .any e || decide (e.on < j)

def drawOk (ops : Array Oper) (cs : List COp) (k : Nat) : Bool :=
  let b := Region.before ops
  edgesBack ops &&
  (cs.zipIdx.all fun (o, j) => cs.zipIdx.all fun (p, i) =>
    decide (i = j) ||
    ((match p.dst with
      | some d => !(o.dst == some d) && (!(o.looks.contains d) || (if decide (i < j) then bitOf b j i else bitOf b i j))
      | none => true) &&
     (decide (j < k) || decide (j < i) || bitOf b j i)))

/-- How many operations, from the end, come behind all others in every order. -/
def lateFrom (ops : Array Oper) (n : Nat) : Nat :=
  let b := Region.before ops
  (List.range n).foldr (fun j acc => if acc = j + 1 ∧ (List.range j).all (fun i => bitOf b j i) then j else acc) n

def comp (P : Program) (fl : List Nat) : Code → C
  | .skip => .skip
  | .region _ ops false => .reg (compOps P fl ops ops.toList)
  | .region _ ops true =>
    let cs := compOps P fl ops ops.toList
    let k := min (lateFrom ops ops.size) ops.size
    if drawOk ops cs k then .dreg (cs.take k) (cs.drop k) else .bad
  | .seq a b => .seq (comp P fl a) (comp P fl b)
  | .cond c a b => .cond (cx c) (comp P fl a) (comp P fl b)
  | .block id b => .block id (comp P fl b)
  | .loop b => .loop (comp P fl b)
  | .exit id => .exit id
  | .scope b => .scope (comp P fl b)
  | .label l => .label l
  | .goto l => .goto l
  | .ret => .ret
  | _ => .bad

end Go.Proofs.Ytlmplofpclaokaa
