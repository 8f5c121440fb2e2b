/- Abstract values, abstract code and the predicate transformer over it; no world, no address, no order of evaluation. -/
import Derived.Tactics
import Derived.Orders
import Derived.ScopeJumps
import Derived.Laws.Append
import Derived.Laws.Bits
import Derived.Lib.Bytealg
import Derived.Lib.UnsafeStr
import Derived.Lib.Builder
namespace Go.Proofs.Ytlmplofpclaokaa
set_option autoImplicit false

/-- The type of a block's elements, by the block's number. -/
def tag (id : Nat) : Nat := id - 2 ^ id.log2

/-- A value, without addresses. 'rows': a slice that nobody writes; 'own': a slice over a block that this run owns. -/
inductive AV where
  | int (k : IntKind) (n : Int)
  | bool (b : Bool)
  | str (l : List UInt8)
  | agg (cs : List AV)
  | tup (vs : List AV)
  | rows (sz : Nat) (l : List (List AV))
  | nilS
  | own (id sz lo hi : Nat)
  | ptr (id sz i j : Nat)
  | fp (cs : List AV)
  | nilP
  | clo (f : Nat) (first caps : List AV)
  | nilF
  | nilI

instance : Inhabited AV := ⟨.nilS⟩

def AV.isCell : AV → Bool
  | .agg _ => false
  | .tup _ => false
  | _ => true

def AV.cells : AV → List AV
  | .agg cs => cs
  | v => [v]

inductive Blk where
  | rows (sz : Nat) (l : List (List AV))

abbrev AH := List (Nat × Blk)

def hget : AH → Nat → Option Blk
  | [], _ => none
  | (i, b) :: H, id => if id = i then some b else hget H id

def hset : AH → Nat → Blk → AH
  | [], _, _ => []
  | (i, b) :: H, id, c => if id = i then (i, c) :: H else (i, b) :: hset H id c

def hdel : AH → Nat → AH
  | [], _ => []
  | (i, b) :: H, id => if id = i then hdel H id else (i, b) :: hdel H id

abbrev Fr := Nat → Option AV

def Fr.set (s : Fr) (d : Nat) (x : AV) : Fr := fun t => if t = d then some x else s t
def Fr.clr (s : Fr) (d : Nat) : Fr := fun t => if t = d then none else s t
def Fr.put (s : Fr) (d : Option Nat) (x : AV) : Fr := match d with | some d => s.set d x | none => s
def Fr.del (s : Fr) (d : Option Nat) : Fr := match d with | some d => s.clr d | none => s

def initFr (args : List AV) : Fr := fun t => args[t]?

inductive X where
  | t (n : Nat)
  | c (v : AV)
  | bad

def ev (s : Fr) : X → Option AV
  | .t n => s n
  | .c v => some v
  | .bad => none

def evL (s : Fr) : List X → Option (List AV)
  | [] => some []
  | x :: xs => (ev s x).bind fun v => (evL s xs).bind fun vs => some (v :: vs)

/-- The kind of a cell that is compared. -/
inductive SK where
  | i (k : IntKind)
  | b
  | s

/-- Functions of the model's own. -/
inductive EK where
  | cnt
  | ixb
  | cmp
  | same

inductive CO where
  | mv (x : X)
  | pick (c a b : X)
  | box (T : Nat) (x : X)
  | allc (T : Nat) (zs : List AV)
  | load (n : Option Nat) (x : X)
  | store (n : Nat) (x y : X)
  | faddr (off : Nat) (x : X)
  | iaddr (sz : Nat) (x i : X)
  | iarr (len sz : Nat) (x i : X)
  | field (off : Nat) (n : Option Nat) (x : X)
  | idx (x i : X)
  | idxA (len sz : Nat) (n : Option Nat) (x i : X)
  | bin (op : BinOp) (x y : X)
  | beq (neg : Bool) (x y : X)
  | ncmpS (neg : Bool) (x : X)
  | ncmpP (neg : Bool) (x : X)
  | aeq (neg : Bool) (sh : List SK) (x y : X)
  | un (op : UnOp) (x : X)
  | conv (k : IntKind) (x : X)
  | convS (x : X)
  | bytesS (x : X)
  | ext (k : EK) (xs : List X)
  | build (zs : List AV) (parts : List (Nat × Nat × X))
  | bslice (T sz n : Nat) (zs : List AV) (parts : List (Nat × X))
  | bsliceO (T sz n : Nat) (zs : List AV) (parts : List (Nat × X))
  | slice (k : Option Nat) (x : X) (lo hi : Option X)
  | mks (T sz bytes : Nat) (zs : List AV) (n : X)
  | len (str : Bool) (x : X)
  | append (T : Nat) (str : Bool) (sz bytes : Nat) (x y : X)
  | mm (mx : Bool) (xs : List X)
  | extr (x : X) (i : Nat)
  | call (f : Nat) (xs : List X)
  | callv (f : X) (xs : List X)
  | mkfn (f : Nat) (first caps : List X)
  | idu (x : X)
  | idf (u sz : Nat) (x : X)
  | peq (neg : Bool) (x y : X)
  | sdata (x : X)
  | ustr (u : Nat) (x n : X)
  | nilck (x : X)
  | bad

structure COp where
  dst : Option Nat
  guard : Option (Nat × Bool)
  co : CO

inductive Rs where
  | val (v : AV)
  | upd (H : AH)
  | valH (v : AV) (H : AH)
  | fresh (T : Nat) (blk : Blk) (v : Nat → AV) (H : AH)
  | call (f : Nat) (args : List AV)

/-! ### What operations come to -/
def readA (H : AH) : AV → Option (List AV)
  | .fp cs => some cs
  | .ptr id sz i j =>
    match hget H id with
    | some (.rows sz' l) => if sz' = sz then (l[i]?).map (·.drop j) else none
    | none => none
  | _ => none

def readS (H : AH) (str : Bool) (sz : Nat) (v : AV) : Option (List (List AV)) :=
  match str, v with
  | false, .rows sz' l => if sz' = sz then some l else none
  | false, .nilS => some []
  | false, .own id sz' lo hi =>
    match hget H id with
    | some (.rows sz'' l) => if sz'' = sz ∧ sz' = sz ∧ hi ≤ l.length then some ((l.take hi).drop lo) else none
    | none => none
  | true, .str l => if sz = 1 then some (l.map fun c => [.int .u8 (c.toNat : Int)]) else none
  | _, _ => none

def over (r : List AV) (j : Nat) (vs : List AV) : List AV := r.take j ++ vs ++ r.drop (j + vs.length)

def overs (cs : List AV) : List (Nat × Nat × AV) → Option (List AV)
  | [] => some cs
  | (off, size, v) :: rest =>
    if v.cells.length = size ∧ off + size ≤ cs.length then overs (over cs off v.cells) rest else none

def setRows (sz : Nat) (l : List (List AV)) : List (Nat × AV) → Option (List (List AV))
  | [] => some l
  | (i, v) :: rest => if v.cells.length = sz ∧ i < l.length then setRows sz (l.set i v.cells) rest else none

def evParts3 (s : Fr) : List (Nat × Nat × X) → Option (List (Nat × Nat × AV))
  | [] => some []
  | (o, z, x) :: r => (ev s x).bind fun v => (evParts3 s r).bind fun vs => some ((o, z, v) :: vs)

def evParts2 (s : Fr) : List (Nat × X) → Option (List (Nat × AV))
  | [] => some []
  | (i, x) :: r => (ev s x).bind fun v => (evParts2 s r).bind fun vs => some ((i, v) :: vs)

def bitsV (op : BinOp) (k : IntKind) (x y : Int) : Int :=
  let a := BitVec.ofInt k.bits x
  let b := BitVec.ofInt k.bits y
  match op with
  | .and => k.wrap (a &&& b).toNat
  | .or => k.wrap (a ||| b).toNat
  | .xor => k.wrap (a ^^^ b).toNat
  | _ => k.wrap (a &&& ~~~b).toNat

def binInt (op : BinOp) (k : IntKind) (a b : Int) : Option AV :=
  match op with
  | .add => some (.int k (k.wrap (a + b)))
  | .sub => some (.int k (k.wrap (a - b)))
  | .mul => some (.int k (k.wrap (a * b)))
  | .quo => if b ≠ 0 then some (.int k (k.wrap (a.tdiv b))) else none
  | .rem => if b ≠ 0 then some (.int k (a.tmod b)) else none
  | .and => some (.int k (bitsV .and k a b))
  | .or => some (.int k (bitsV .or k a b))
  | .xor => some (.int k (bitsV .xor k a b))
  | .andNot => some (.int k (bitsV .andNot k a b))
  | .eql => some (.bool (decide (a = b)))
  | .neq => some (.bool (decide (a ≠ b)))
  | .lss => some (.bool (decide (a < b)))
  | .leq => some (.bool (decide (a ≤ b)))
  | .gtr => some (.bool (decide (b < a)))
  | .geq => some (.bool (decide (b ≤ a)))
  | _ => none

def binStr (op : BinOp) (a b : List UInt8) : Option AV :=
  match op with
  | .add => if ((a.length + b.length : Nat) : Int) ≤ 9223372036854775807 then some (.str (a ++ b)) else none
  | .eql => some (.bool (decide (a = b)))
  | .neq => some (.bool (decide (a ≠ b)))
  | .lss => some (.bool (Op.bytesLess a b))
  | .leq => some (.bool (Op.bytesLess a b || decide (a = b)))
  | .gtr => some (.bool (!(Op.bytesLess a b || decide (a = b))))
  | .geq => some (.bool (!(Op.bytesLess a b)))
  | _ => none

def isNilS : AV → Option Bool
  | .nilS => some true
  | .rows _ l => if l ≠ [] then some false else none
  | .own _ _ _ _ => some false
  | _ => none

def isNilP : AV → Option Bool
  | .nilP => some true
  | .ptr _ _ _ _ => some false
  | .fp _ => some false
  | _ => none

def binV (op : BinOp) (x y : AV) : Option AV :=
  match x, y with
  | .int k a, .int k' b =>
    match op with
    | .shl => if 0 ≤ b then some (.int k (k.wrap (a * 2 ^ (min b.toNat k.bits)))) else none
    | .shr => if 0 ≤ b then some (.int k (a.fdiv (2 ^ (min b.toNat k.bits)))) else none
    | _ => if k = k' then binInt op k a b else none
  | .str a, .str b => binStr op a b
  | _, _ => none

def unV (op : UnOp) (x : AV) : Option AV :=
  match op, x with
  | .neg, .int k n => some (.int k (k.wrap (0 - n)))
  | .not, .bool b => some (.bool (!b))
  | .xor, .int k n => some (.int k (bitsV .xor k (if k.signed then -1 else k.max) n))
  | _, _ => none

/-- Are the cells of two structs the same? 'sh': the kinds of the cells. -/
def eqCells : List SK → List AV → List AV → Option Bool
  | [], [], [] => some true
  | .i k :: sh, .int k1 a :: xs, .int k2 b :: ys =>
    if k1 = k ∧ k2 = k then (eqCells sh xs ys).map fun r => decide (a = b) && r else none
  | .b :: sh, .bool a :: xs, .bool b :: ys => (eqCells sh xs ys).map fun r => decide (a = b) && r
  | .s :: sh, .str a :: xs, .str b :: ys => (eqCells sh xs ys).map fun r => decide (a = b) && r
  | _, _, _ => none

def mm2 (mx : Bool) : List AV → Option AV
  | [.int k a] => some (.int k a)
  | [.int k a, .int k' b] => if k = k' then some (.int k (if mx then max a b else min a b)) else none
  | [.int k a, .int k' b, .int k'' c] => if k = k' ∧ k = k'' then some (.int k (if mx then max (max a b) c else min (min a b) c)) else none
  | _ => none

def lenA (str : Bool) (v : AV) : Option Int :=
  match str, v with
  | true, .str l => some l.length
  | false, .rows _ l => some l.length
  | false, .nilS => some 0
  | false, .own _ _ lo hi => some ((hi - lo : Nat) : Int)
  | _, _ => none

def partA (cs : List AV) (off : Nat) : Option Nat → Option AV
  | none => (cs[off]?).bind fun v => if v.isCell = true then some v else none
  | some n => if off + n ≤ cs.length then some (.agg ((cs.drop off).take n)) else none

def evO (s : Fr) (d : Int) : Option X → Option Int
  | none => some d
  | some x => (ev s x).bind fun v => match v with | .int _ n => some n | _ => none

def cutA (k : Option Nat) (v : AV) (a b : Nat) : Option AV :=
  match v with
  | .str l => some (.str ((l.take b).drop a))
  | .rows sz l => if k = some sz then some (.rows sz ((l.take b).drop a)) else none
  | .nilS => some .nilS
  | .own id sz l _ => if k = some sz then some (.own id sz (l + a) (l + b)) else none
  | _ => none

/-- 'k': the size of an element; none: a string. -/
def sliceA (s : Fr) (k : Option Nat) (v : AV) (lo hi : Option X) : Option AV :=
  (lenA k.isNone v).bind fun n => (evO s 0 lo).bind fun a => (evO s n hi).bind fun b =>
    if 0 ≤ a ∧ a ≤ b ∧ b ≤ n then cutA k v a.toNat b.toNat else none

def allCells (l : List AV) : Bool := l.all AV.isCell

/-- The bytes of a slice of bytes. -/
def bytesA : List (List AV) → Option (List UInt8)
  | [] => some []
  | [.int .u8 n] :: r => if 0 ≤ n ∧ n < 256 then (bytesA r).bind fun l => some (UInt8.ofNat n.toNat :: l) else none
  | _ => none

def extA (k : EK) (vs : List AV) : Option AV :=
  match k, vs with
  | .cnt, [.str l, .int .u8 c] => some (.int .i64 (Lib.countByte l c.toNat.toUInt8 : Nat))
  | .ixb, [.str l, .int .u8 c] => some (.int .i64 (Lib.indexByte l c.toNat.toUInt8))
  | .cmp, [.str a, .str b] => some (.int .i64 (Lib.compareBytes a b))
  | .same, [v] => some v
  | _, _ => none

def evalOp (s : Fr) (H : AH) : CO → Option Rs
  | .mv x => (ev s x).bind fun v => some (.val v)
  | .pick c a b => (ev s c).bind fun v => match v with
    | .bool q => if q = true then (ev s a).bind fun v => some (.val v) else (ev s b).bind fun v => some (.val v)
    | _ => none
  | .box T x => (ev s x).bind fun v => if allCells v.cells = true then some (.fresh T (.rows v.cells.length [v.cells]) (fun id => .ptr id v.cells.length 0 0) H) else none
  | .allc T zs => some (.fresh T (.rows zs.length [zs]) (fun id => .ptr id zs.length 0 0) H)
  | .load n x => (ev s x).bind fun v => (readA H v).bind fun cs => (partA cs 0 n).bind fun r => some (.val r)
  | .store n x y => (ev s x).bind fun v => (ev s y).bind fun z =>
    match v with
    | .ptr id sz i j =>
      match hget H id with
      | some (.rows sz' l) =>
        (l[i]?).bind fun r => if z.cells.length = n ∧ allCells z.cells = true ∧ sz' = sz ∧ j + n ≤ r.length then some (.upd (hset H id (.rows sz (l.set i (over r j z.cells))))) else none
      | none => none
    | _ => none
  | .faddr off x => (ev s x).bind fun v => match v with
    | .ptr id sz i j => some (.val (.ptr id sz i (j + off)))
    | .fp cs => some (.val (.fp (cs.drop off)))
    | _ => none
  | .iaddr sz x i => (ev s x).bind fun v => (ev s i).bind fun w => match w with
    | .int _ n => match v with
      | .rows sz' l => if sz' = sz ∧ 0 ≤ n ∧ n < l.length then some (.val (.fp (l.getD n.toNat []))) else none
      | .own id sz' lo hi => if sz' = sz ∧ 0 ≤ n ∧ n < ((hi - lo : Nat) : Int) then some (.val (.ptr id sz (lo + n.toNat) 0)) else none
      | _ => none
    | _ => none
  | .iarr len sz x i => (ev s x).bind fun v => (ev s i).bind fun w => match w with
    | .int _ n => if 0 ≤ n ∧ n < len then match v with
      | .ptr id z a j => some (.val (.ptr id z a (j + n.toNat * sz)))
      | .fp cs => some (.val (.fp (cs.drop (n.toNat * sz))))
      | _ => none
      else none
    | _ => none
  | .field off n x => (ev s x).bind fun v => match v with
    | .agg cs => (partA cs off n).bind fun r => some (.val r)
    | _ => none
  | .idx x i => (ev s x).bind fun v => (ev s i).bind fun w => match v, w with
    | .str l, .int _ n => if 0 ≤ n ∧ n < l.length then some (.val (.int .u8 ((l.getD n.toNat 0).toNat : Int))) else none
    | _, _ => none
  | .idxA len sz n x i => (ev s x).bind fun v => (ev s i).bind fun w => match v, w with
    | .agg cs, .int _ a => if 0 ≤ a ∧ a < len then (partA cs (a.toNat * sz) n).bind fun r => some (.val r) else none
    | _, _ => none
  | .bin op x y => (ev s x).bind fun a => (ev s y).bind fun b => (binV op a b).bind fun v => some (.val v)
  | .beq neg x y => (ev s x).bind fun a => (ev s y).bind fun b => match a, b with
    | .bool p, .bool q => some (.val (.bool (if neg then !(p == q) else (p == q))))
    | _, _ => none
  | .ncmpS neg x => (ev s x).bind fun a => (isNilS a).bind fun b => some (.val (.bool (if neg then !b else b)))
  | .ncmpP neg x => (ev s x).bind fun a => (isNilP a).bind fun b => some (.val (.bool (if neg then !b else b)))
  | .aeq neg sh x y => (ev s x).bind fun a => (ev s y).bind fun b => match a, b with
    | .agg xs, .agg ys => (eqCells sh xs ys).bind fun r => some (.val (.bool (if neg then !r else r)))
    | _, _ => none
  | .un op x => (ev s x).bind fun a => (unV op a).bind fun v => some (.val v)
  | .conv k x => (ev s x).bind fun a => match a with
    | .int _ n => some (.val (.int k (k.wrap n)))
    | _ => none
  | .convS x => (ev s x).bind fun a => match a with
    | .str l => some (.val (.str l))
    | _ => none
  | .bytesS x => (ev s x).bind fun v => (readS H false 1 v).bind fun ys => (bytesA ys).bind fun l => some (.val (.str l))
  | .ext k xs => (evL s xs).bind fun vs => (extA k vs).bind fun v => some (.val v)
  | .build zs parts => (evParts3 s parts).bind fun ps => (overs zs ps).bind fun cs => if allCells cs = true then some (.val (.agg cs)) else none
  | .bslice T sz n zs parts => (evParts2 s parts).bind fun ps => (setRows sz (List.replicate n zs) ps).bind fun l =>
    if l.all allCells = true then
      if n = 0 then some (.fresh T (.rows sz []) (fun id => .own id sz 0 0) H) else some (.val (.rows sz l))
    else none
  | .bsliceO T sz n zs parts => (evParts2 s parts).bind fun ps => (setRows sz (List.replicate n zs) ps).bind fun l =>
    if l.all allCells = true then some (.fresh T (.rows sz l) (fun id => .own id sz 0 n) H) else none
  | .slice k x lo hi => (ev s x).bind fun v => (sliceA s k v lo hi).bind fun r => some (.val r)
  | .mks T sz bytes zs n => (ev s n).bind fun v => match v with
    | .int _ a => if 0 ≤ a ∧ a * bytes ≤ 140737488355328 then some (.fresh T (.rows sz (List.replicate a.toNat zs)) (fun id => .own id sz 0 a.toNat) H) else none
    | _ => none
  | .len str x => (ev s x).bind fun v => (lenA str v).bind fun n => some (.val (.int .i64 n))
  | .append T str sz bytes x y => (ev s x).bind fun v => (ev s y).bind fun z => (readS H str sz z).bind fun ys =>
    match v with
    | .nilS => if ys = [] then some (.val .nilS)
      else if ys.length * bytes ≤ 140737488355328 then some (.fresh T (.rows sz ys) (fun id => .own id sz 0 ys.length) H) else none
    | .own id sz' lo hi => (readS H false sz (.own id sz' lo hi)).bind fun xs =>
      if sz' = sz ∧ lo = 0 ∧ tag id = T ∧ (xs.length + ys.length) * bytes ≤ 140737488355328 then
        some (.fresh T (.rows sz (xs ++ ys)) (fun id => .own id sz 0 (xs.length + ys.length)) (hdel H id)) else none
    | _ => none
  | .mm mx xs => (evL s xs).bind fun vs => (mm2 mx vs).bind fun v => some (.val v)
  | .extr x i => (ev s x).bind fun v => match v with
    | .tup vs => (vs[i]?).bind fun r => some (.val r)
    | _ => none
  | .call f xs => (evL s xs).bind fun vs => some (.call f vs)
  | .callv g xs => (ev s g).bind fun c => (evL s xs).bind fun vs => match c with
    | .clo f first caps => some (.call f (first ++ vs ++ caps))
    | _ => none
  | .mkfn f first caps => (evL s first).bind fun us => (evL s caps).bind fun vs => some (.val (.clo f us vs))
  | .idu x => (ev s x).bind fun v => match v with
    | .nilP => some (.val .nilP)
    | .ptr id sz i j =>
      match hget H id with
      | some (.rows sz' l) => if sz' = sz ∧ i < l.length ∧ j < sz then some (.val (.ptr id sz i j)) else none
      | none => none
    | _ => none
  | .idf u n x => (ev s x).bind fun v => match v with
    | .nilP => some (.val .nilP)
    | .ptr id sz i j =>
      match hget H id with
      | some (.rows sz' l) => if sz' = sz ∧ n = sz ∧ i = 0 ∧ j = 0 ∧ 0 < l.length ∧ tag id = u then some (.val (.ptr id sz 0 0)) else none
      | none => none
    | _ => none
  | .peq neg x y => (ev s x).bind fun a => (ev s y).bind fun b => match a, b with
    | .ptr id sz i j, .ptr id' sz' i' j' => if id = id' ∧ sz = sz' ∧ i = i' ∧ j = j' then some (.val (.bool (!neg))) else none
    | _, _ => none
  | .sdata x => (ev s x).bind fun v => match v with
    | .nilS => some (.val .nilP)
    | .own id sz lo hi => if lo < hi then some (.val (.ptr id sz lo 0)) else none
    | _ => none
  | .ustr u x n => (ev s x).bind fun v => (ev s n).bind fun w => match v, w with
    | .nilP, .int .i64 k => if k = 0 then some (.val (.str [])) else none
    | .ptr id sz i j, .int .i64 k =>
      match hget H id with
      | some (.rows sz' l) => (bytesA (l.take k.toNat)).bind fun b =>
        if sz = 1 ∧ sz' = 1 ∧ i = 0 ∧ j = 0 ∧ 0 < k ∧ k ≤ l.length ∧ k ≤ 9223372036854775807 ∧ tag id = u then some (.valH (.str b) (hdel H id)) else none
      | none => none
    | _, _ => none
  | .nilck x => (ev s x).bind fun v => match v with
    | .ptr _ _ _ _ => some (.val v)
    | .fp _ => some (.val v)
    | _ => none
  | .bad => none

end Go.Proofs.Ytlmplofpclaokaa
