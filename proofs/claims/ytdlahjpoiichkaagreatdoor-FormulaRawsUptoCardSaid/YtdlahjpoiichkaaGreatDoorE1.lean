/- An abstract interpreter over a loaded program and its soundness against the model, part 1: for every context that fits the program. -/
import GoSem.Step
import Derived.CheckFast
import Derived.Calls
import Derived.Laws.Cells
import Derived.Laws.Sem
import Derived.Lib.FrozenHead
import Derived.RowKit
import Derived.Lib.Strings
import Derived.Lib.SmallJoins
import Derived.Laws.StructEq
set_option linter.unusedVariables false
set_option linter.unusedSimpArgs false
set_option linter.unusedSectionVars false
namespace Go.AE
open Go
def upd {α:Type} (f:Nat → α) (n:Nat) (v:α):Nat → α:=fun m => if m = n then v else f m
theorem upd_same {α:Type} (f:Nat → α) (n:Nat) (v:α):upd f n v n = v:=if_pos rfl
theorem upd_ne {α:Type} (f:Nat → α) {n m:Nat} (v:α) (h:m ≠ n):upd f n v m = f m:=if_neg h
inductive SK where
 | nil
 | exact
 | open_
 | tok (t size:Nat)
inductive AV where
 | any
 | bool (b:Bool)
 | int (k:IntKind) (n:Int)
 | str (s:List Nat)
 | nilp
 | ptr (l off:Nat)
 | cptr (cells:List AV)
 | slice (k:SK) (es:List AV)
 | row (l off len:Nat) (lim:Option Nat)
 | nilmap
 | map (l:Nat)
 | func (fn:Fn) (first captured:List AV)
 | nilfn
 | iface (t:TypeId) (v:AV)
 | nilif
 | agg (cells:List AV)
 | tuple (vs:List AV)
instance : Inhabited AV := ⟨.any⟩
def undefA:AV:=.tuple []
inductive AO where
 | dead
 | mem (elem:TypeId) (cells:List AV) (full:Bool) (fz:Nat)
 | tok
 | amap (es:List (AV × AV × Nat)) (clock:Nat)
 | miter (m:Option Nat) (since:Nat) (seen:List Nat) (last:Nat)
 | siter (s:List Nat) (pos:Nat)
 | loop (fn:FuncId) (tmps:Nat → AV) (n:Nat) (params:List Tmp) (assign body:Code) (state:LoopState) (pending:Option Code) (dfr:Nat)
 | dfr
 | lmap (es:List (AV × AV))
structure St where
 heap:Nat → AO
 next:Nat
 log:List Nat
structure ADef where
 fn:Option FuncId      -- none: what a range over a function leaves
 at_:Nat
 args:List AV
structure Fr where
 tmps:Nat → AV
 n:Nat
 defs:List ADef
 pv:Option AV
structure TI where
 und:TypeDesc
 size:Nat
 bytes:Nat
 isAgg:Bool
 zero:List AV
 places:List (Nat × Nat)
structure FI where
 ntmps:Nat
 results:List ResultVar
 body:Code
structure Ctx where
 P:Program
 ty:Nat → Option TI
 fn:Nat → Option FI
 glob:Nat → Option (List AV)
 X:FuncId → List AV → St → Option (AV × St)
 mu:FuncId → Bool
 frz:FuncId → Bool
def AV.cells:AV → List AV | .agg cs => cs | v => [v]
def AV.isAny:AV → Bool | .any => true | _ => false
def AV.isCell:AV → Bool | .agg _ => false | .tuple _ => false | .any => false | _ => true
def TI.part (ti:TI) (cs:List AV):Option AV :=
 if ti.isAgg then (if (cs.take ti.size).length = ti.size then some (.agg (cs.take ti.size)) else none)
 else cs.head?
def TI.zeroV (ti:TI):AV:=if ti.isAgg then .agg ti.zero else ti.zero.headD .any
def ofCell:Value → AV
 | .bool b => .bool b
 | .int k n => .int k n
 | .string s => .str (s.data.toList.map (·.toNat))
 | .pointer none => .nilp
 | .slice none 0 0 => .slice .nil []
 | .map none => .nilmap
 | .nilFunc => .nilfn
 | .nilIface => .nilif
 | .func (.func f) ⟨[]⟩ ⟨[]⟩ => .func (.func f) [] []
 | _ => .any
def ofV:Value → AV
 | .agg cs => .agg (cs.toList.map ofCell)
 | .tuple ⟨[]⟩ => .tuple []
 | v => ofCell v
def St.push (st:St) (o:AO):St:=⟨upd st.heap st.next o,st.next + 1,st.log⟩
def St.set (st:St) (l:Nat) (o:AO):St:=⟨upd st.heap l o,st.next,l :: st.log⟩
def Fr.put (fr:Fr) (d:Option Tmp) (v:AV):Fr :=
 match d with | none => fr | some d => if d < fr.n then { fr with tmps:=upd fr.tmps d v } else fr
def oval (C:Ctx) (fr:Fr):Operand → AV
 | .tmp t => fr.tmps t
 | .const v => ofV v
 | .global g => (match C.glob g with | some cs => .cptr cs | none => .any)
 | .func f => .func (.func f) [] []
def ld (C:Ctx) (st:St) (t:TypeId) (a:AV):Option AV :=
 match C.ty t with
 | none => none
 | some ti => match a with
  | .ptr l off => (match st.heap l with
   | .mem _ cells _ _ => ti.part (cells.drop off)
   | _ => none)
  | .cptr cells => ti.part cells
  | _ => none
def splice (off:Nat) (new cells:List AV):List AV:=cells.take off ++ new ++ cells.drop (off + new.length)
def sto (st:St) (l off:Nat) (new:List AV):Option St :=
 match new with
 | [] => some st
 | _ :: _ => match st.heap l with
  | .mem e cells full fz =>
   if off + new.length ≤ cells.length ∧ fz ≤ off ∧ new.all AV.isCell = true then some (st.set l (.mem e (splice off new cells) full fz)) else none
  | _ => none
def strLt:List Nat → List Nat → Bool
 | _,[] => false
 | [],_ :: _ => true
 | a :: x,b :: y => decide (a < b) || (a == b && strLt x y)
def intOp (op:BinOp) (k:IntKind) (x y:Int):Option AV :=
 match op with
 | .add => some (.int k (k.wrap (x + y)))
 | .sub => some (.int k (k.wrap (x - y)))
 | .mul => some (.int k (k.wrap (x * y)))
 | .quo => if y = 0 then none else some (.int k (k.wrap (x.tdiv y)))
 | .rem => if y = 0 then none else some (.int k (x.tmod y))
 | .and => some (.int k (k.wrap ((BitVec.ofInt k.bits x &&& BitVec.ofInt k.bits y).toNat:Int)))
 | .or => some (.int k (k.wrap ((BitVec.ofInt k.bits x ||| BitVec.ofInt k.bits y).toNat:Int)))
 | .xor => some (.int k (k.wrap ((BitVec.ofInt k.bits x ^^^ BitVec.ofInt k.bits y).toNat:Int)))
 | .andNot => some (.int k (k.wrap ((BitVec.ofInt k.bits x &&& ~~~ BitVec.ofInt k.bits y).toNat:Int)))
 | .eql => some (.bool (x == y))
 | .neq => some (.bool (x != y))
 | .lss => some (.bool (decide (x < y)))
 | .leq => some (.bool (decide (x ≤ y)))
 | .gtr => some (.bool (decide (x > y)))
 | .geq => some (.bool (decide (x ≥ y)))
 | _ => none
def shiftOp (op:BinOp) (k:IntKind) (x y:Int):Option AV :=
 if y < 0 then none else
  match op with
  | .shl => some (.int k (k.wrap (x * 2 ^ (min y.toNat k.bits))))
  | .shr => some (.int k (x.fdiv (2 ^ (min y.toNat k.bits))))
  | _ => none
def strOp (op:BinOp) (x y:List Nat):Option AV :=
 match op with
 | .add => if x.length + y.length ≤ 4294967296 then some (.str (x ++ y)) else none
 | .eql => some (.bool (x == y))
 | .neq => some (.bool (!(x == y)))
 | .lss => some (.bool (strLt x y))
 | .leq => some (.bool (strLt x y || x == y))
 | .gtr => some (.bool (!(strLt x y || x == y)))
 | .geq => some (.bool (!strLt x y))
 | _ => none
def cellEq (C:Ctx) (t:TypeId) (x y:AV):Option Bool :=
 match C.ty t with
 | none => none
 | some ti => (match ti.und,x,y with
  | .int _,.int j a,.int k b => if j = k then some (a == b) else none
  | .bool,.bool a,.bool b => some (a == b)
  | .string,.str a,.str b => some (a == b)
  | _,_,_ => none)
def cellsEq (C:Ctx):List Field → List AV → List AV → Option Bool
 | [],[],[] => some true
 | f :: fs,a :: x,b :: y => (match cellEq C f.type a b with | some true => cellsEq C fs x y | r => r)
 | _,_,_ => none
def sizeIs (C:Ctx) (t:TypeId):Option Nat:=(C.ty t).map (·.size)
def eqV (C:Ctx) (t:TypeId) (x y:AV):Option Bool :=
 match C.ty t with
 | none => none
 | some ti => (match ti.und,x,y with
  | .bool,.bool a,.bool b => some (a == b)
  | .pointer _,.nilp,.nilp => some true
  | .pointer _,.nilp,.ptr _ _ => some false
  | .pointer _,.nilp,.cptr _ => some false
  | .pointer _,.ptr _ _,.nilp => some false
  | .pointer _,.cptr _,.nilp => some false
  | .pointer e,.ptr l a,.ptr m b => if l = m then (match sizeIs C e with | some (_ + 1) => some (a == b) | _ => none) else none
  | .slice _,.slice .nil _,.slice k _ => some (match k with | .nil => true | _ => false)
  | .slice _,.slice k _,.slice .nil _ => some (match k with | .nil => true | _ => false)
  | .slice _,.row _ _ _ _,.slice .nil _ => some false
  | .slice _,.slice .nil _,.row _ _ _ _ => some false
  | .map _ _,.nilmap,.nilmap => some true
  | .map _ _,.nilmap,.map _ => some false
  | .map _ _,.map _,.nilmap => some false
  | .func _ _ _,.nilfn,.nilfn => some true
  | .func _ _ _,.nilfn,.func _ _ _ => some false
  | .func _ _ _,.func _ _ _,.nilfn => some false
  | .interface _,.nilif,.iface _ _ => some false
  | .interface _,.iface _ _,.nilif => some false
  | _,_,_ => none)
def plainCell (C:Ctx) (t:TypeId):Bool :=
 match C.ty t with | some ti => (match ti.und with | .int _ => true | .bool => true | .string => true | _ => false) | none => false
def plainStruct (C:Ctx):List Field → Nat → Bool
 | [],_ => true
 | f :: r, off => f.offset == off && (f.name != "_") && plainCell C f.type && plainStruct C r (off + 1)
def keyEq (C:Ctx) (t:TypeId) (x y:AV):Option Bool :=
 match x,y with
 | .agg a,.agg b => (match C.ty t with
  | some { und:=.struct fs,.. } => if plainStruct C fs.toList 0 = true ∧ a.length = fs.size ∧ C.P.stoodInHeld t = false then cellsEq C fs.toList a b else none
  | _ => none)
 | x,y => cellEq C t x y
def boolA (neg:Bool):Option Bool → Option AV
 | some b => some (.bool (b != neg))
 | none => none
def isConstO:Operand → Bool | .const _ => true | _ => false
def binA (C:Ctx) (op:BinOp) (t:TypeId) (xo yo:Operand) (x y:AV):Option AV :=
 match x,y with
 | .int k a,.int k' b => (match op with
  | .shl | .shr => shiftOp op k a b
  | _ => if k = k' then intOp op k a b else none)
 | .str a,.str b => strOp op a b
 | .agg a,.agg b => if C.P.eqGuardType C.P.depth t then none else (match op with
  | .eql => boolA false (keyEq C t (.agg a) (.agg b))
  | .neq => boolA true (keyEq C t (.agg a) (.agg b))
  | _ => none)
 | .nilif,.nilif => if isConstO xo || isConstO yo then (match C.ty t with
  | some { und:=.interface _,.. } => (match op with | .eql => some (.bool true) | .neq => some (.bool false) | _ => none)
  | _ => none) else none
 | x,y => (match op with
  | .eql => boolA false (eqV C t x y)
  | .neq => boolA true (eqV C t x y)
  | _ => none)
def unA (op:UnOp) (x:AV):Option AV :=
 match op,x with
 | .neg,.int k n => some (.int k (k.wrap (0 - n)))
 | .xor,.int k n => intOp .xor k (if k.signed then -1 else k.max) n
 | .not,.bool b => some (.bool (!b))
 | _,_ => none
def bytesOf?:List AV → Option (List Nat)
 | [] => some []
 | .int .u8 (.ofNat n) :: r => if n < 256 then (bytesOf? r).map (n :: ·) else none
 | _ => none
def convA (C:Ctx) (st:St) (src dst:TypeId) (x:AV):Option AV :=
 match C.ty src,C.ty dst with
 | some si,some di => (match si.und,di.und,x with
  | _,.int k,.int _ n => some (.int k (k.wrap n))
  | _,.string,.str s => some (.str s)
  | _,.string,.int _ n => some (.str ((Utf8.encode n).data.toList.map (·.toNat)))
  | .slice e,.string,.slice _ es => (match C.ty e with
   | some { und:=.int .u8,.. } => (bytesOf? es).map .str
   | _ => none)
  | .pointer e,.unsafePointer,.ptr l off => (match sizeIs C e,st.heap l with
   | some (_ + 1),.mem _ cells true _ => if off < cells.length then some (.ptr l off) else none
   | _,_ => none)
  | .unsafePointer,.pointer u,.ptr l off => (match st.heap l with
   | .mem e cells true _ => if (sizeIs C u).isSome = true ∧ 0 < cells.length ∧ liesAt C.P C.P.depth e (cells.length / C.P.cellsOf e) off u 1 = true then some (.ptr l off) else none
   | _ => none)
  | _,_,_ => none)
 | _,_ => none
def fillA (places:Nat → Option (Nat × Nat)):List AV → List (Nat × AV) → Option (List AV)
 | cells,[] => some cells
 | cells,(i,v) :: rest =>
  match places i with
  | none => none
  | some (off,size) => if v.isAny = false ∧ v.cells.length = size ∧ off + v.cells.length ≤ cells.length then fillA places (splice off v.cells cells) rest else none
def elemsA (size:Nat):Nat → List (Nat × AV) → Option (List AV)
 | _,[] => some []
 | j,(i,v) :: r => if i = j ∧ v.isAny = false ∧ v.cells.length = size then (elemsA size (j + 1) r).map (v :: ·) else none
def flat (es:List AV):List AV:=es.flatMap AV.cells
def sized (size:Nat) (es:List AV):Bool:=es.all fun e => e.cells.length == size
def sizedH (size:Nat):List AV → Bool | [] => true | e :: _ => e.cells.length == size
def natOf:AV → Option Nat
 | .int _ (.ofNat n) => some n
 | _ => none
def boundA (C:Ctx) (fr:Fr):Option Operand → Option (Option Nat)
 | none => some none
 | some x => (natOf (oval C fr x)).map some
def SK.cut (k:SK) (whole:Bool):SK:=match k with | .nil => .nil | k => if whole then k else .open_
def SK.lim (k:SK) (whole:Bool):SK:=match k with | .nil => .nil | _ => if whole then .exact else .open_
def sliceC (k:SK) (es:List AV) (lo hi mx:Option Nat):Option AV :=
 let h:=hi.getD es.length
 let l:=lo.getD 0
 if l ≤ h ∧ h ≤ es.length then
  match mx with
  | none => some (.slice (k.cut (h == es.length)) ((es.drop l).take (h - l)))
  | some m => if h ≤ m ∧ m ≤ es.length then some (.slice (k.lim (m == h)) ((es.drop l).take (h - l))) else none
 else none
def limOk (lim:Option Nat) (n:Nat):Bool:=match lim with | some c => decide (n ≤ c) | none => true
def sliceR (l off len:Nat) (lim:Option Nat) (size room:Nat) (lo hi mx:Option Nat):Option AV :=
 let h:=hi.getD len
 let b:=lo.getD 0
 if b ≤ h ∧ off + h * size ≤ room ∧ limOk lim h = true then
  match mx with
  | none => some (.row l (off + b * size) (h - b) (lim.map (· - b)))
  | some m => if h ≤ m ∧ off + m * size ≤ room ∧ limOk lim m = true then some (.row l (off + b * size) (h - b) (some (m - b))) else none
 else none
def sliceStr (s:List Nat) (lo hi:Option Nat):Option AV :=
 let h:=hi.getD s.length
 let l:=lo.getD 0
 if l ≤ h ∧ h ≤ s.length then some (.str ((s.drop l).take (h - l))) else none
def sliceA (C:Ctx) (st:St) (t:TypeId) (x:AV) (lo hi mx:Option Nat):Option AV :=
 match C.ty t with
 | some { und:=.string,.. } => (match x,mx with | .str s,none => sliceStr s lo hi | _,_ => none)
 | some { und:=.slice e,.. } => if hi.isNone && mx.isSome then none else (match sizeIs C e with
  | none => none
  | some size => (match x with
   | .slice k es => if sizedH size es then sliceC k es lo hi mx else none
   | .row l off len lim => (match st.heap l with
    | .mem e' cells _ _ => if e' = e ∧ 0 < size then sliceR l off len lim size cells.length lo hi mx else none
    | _ => none)
   | _ => none))
 | _ => none
def indexAddrA (C:Ctx) (t:TypeId) (x:AV) (i:Nat):Option AV :=
 match C.ty t with
 | some { und:=.slice e,.. } => (match sizeIs C e with
  | none => none
  | some size => match x with
   | .slice _ es => (match es[i]? with
    | some v => if v.cells.length = size then some (.cptr v.cells) else none
    | none => none)
   | .row l off len _ => if i < len then some (.ptr l (off + i * size)) else none
   | _ => none)
 | some { und:=.array n e,.. } => (match sizeIs C e with
  | none => none
  | some size => match x with
   | .ptr l off => if i < n then some (.ptr l (off + i * size)) else none
   | .cptr cells => if i < n then some (.cptr (cells.drop (i * size))) else none
   | _ => none)
 | _ => none
def indexA (C:Ctx) (t:TypeId) (x:AV) (i:Nat):Option AV :=
 match C.ty t,x with
 | some { und:=.string,.. },.str s => (s[i]?).map fun b => .int .u8 (.ofNat b)
 | some { und:=.array n e,.. },.agg cs => (match C.ty e with
  | some ei => if i < n then ei.part (cs.drop (i * ei.size)) else none
  | none => none)
 | _,_ => none
def fieldPl (C:Ctx) (t:TypeId) (f:Nat):Option (Nat × TI) :=
 match C.ty t with
 | some { und:=.struct fs,.. } => (match fs[f]? with
  | some fd => (C.ty fd.type).map fun fi => (fd.offset,fi)
  | none => none)
 | _ => none
def fieldAddrA (C:Ctx) (t:TypeId) (x:AV) (f:Nat):Option AV :=
 match fieldPl C t f with
 | some (off,fi) => if fi.size = 0 then none else (match x with
  | .ptr l o => some (.ptr l (o + off))
  | .cptr cells => some (.cptr (cells.drop off))
  | _ => none)
 | none => none
def fieldA (C:Ctx) (t:TypeId) (x:AV) (f:Nat):Option AV :=
 match fieldPl C t f,x with
 | some (off,fi),.agg cs => fi.part (cs.drop off)
 | _,_ => none
def findA (C:Ctx) (kt:TypeId) (k:AV):List (AV × AV × Nat) → Nat → Option (Option (Nat × AV))
 | [],_ => some none
 | (e,v,_) :: r,i => (match keyEq C kt k e,findA C kt k r (i + 1) with
  | some true,some none => some (some (i,v))
  | some false,some x => some x
  | _,_ => none)
def setAt (key val:AV):Nat → List (AV × AV × Nat) → List (AV × AV × Nat)
 | _,[] => []
 | 0,(_,_,b) :: r => (key,val,b) :: r
 | n + 1,x :: r => x :: setAt key val n r
def plainV:AV → Bool
 | .int _ _ | .bool _ | .str _ => true
 | _ => false
def cleanE (es:List (AV × AV)):Bool:=es.all fun x => plainV x.1 && plainV x.2
def zer (es:List (AV × AV)):List (AV × AV × Nat):=es.map fun x => (x.1,x.2,0)
def unz (es:List (AV × AV × Nat)):List (AV × AV):=es.map fun x => (x.1,x.2.1)
def lookupA (C:Ctx) (st:St) (t:TypeId) (x k:AV) (ok:Bool):Option AV :=
 match C.ty t with
 | some { und:=.map kt et,.. } => (match C.ty et with
  | none => none
  | some ei => if (keyEq C kt k k).isSome then
   (match (match x with
    | .nilmap => findA C kt k [] 0
    | .map l => (match st.heap l with | .amap es _ => findA C kt k es 0 | .lmap es => findA C kt k (zer es) 0 | _ => none)
    | _ => none) with
   | some (some (_,v)) => some (if ok then .tuple [v,.bool true] else v)
   | some none => some (if ok then .tuple [ei.zeroV,.bool false] else ei.zeroV)
   | none => none) else none)
 | _ => none
def mapUpd (C:Ctx) (st:St) (t:TypeId) (m k v:AV) (fresh:Bool):Option St :=
 match C.ty t,m with
 | some { und:=.map kt _,.. },.map l => if (keyEq C kt k k).isSome then (match st.heap l with
  | .amap es clock => (match findA C kt k es 0 with
   | some (some (i,_)) => if fresh then none else some (st.set l (.amap (setAt k v i es) clock))
   | some none => if fresh then (if es.isEmpty && cleanE [(k,v)] then some (st.set l (.lmap [(k,v)])) else none) else some (st.set l (.amap (es ++ [(k,v,clock)]) (clock + 1)))
   | none => none)
  | .lmap es => (match findA C kt k (zer es) 0 with
   | some (some (i,_)) => if fresh then none else some (st.set l (.lmap (unz (setAt k v i (zer es)))))
   | some none => if fresh && !cleanE (es ++ [(k,v)]) then none else some (st.set l (.lmap (es ++ [(k,v)])))
   | none => none)
  | _ => none) else none
 | _,_ => none
def rowCells (st:St) (l off n:Nat):Option (List AV) :=
 match st.heap l with
 | .mem _ cells _ _ => if ((cells.drop off).take n).length = n then some ((cells.drop off).take n) else none
 | _ => none
def chunk (ei:TI):Nat → List AV → Option (List AV)
 | 0,_ => some []
 | n + 1,cs => (match ei.part cs,chunk ei n (cs.drop ei.size) with
  | some v,some r => some (v :: r)
  | _,_ => none)
def AV.noAgg:AV → Bool | .agg _ => false | _ => true
def rowElems (st:St) (ei:TI) (l off len:Nat):Option (List AV) :=
 match rowCells st l off (len * ei.size) with
 | some cs => if ei.isAgg || (ei.size == 1 && cs.all AV.noAgg) then chunk ei len cs else none
 | none => none
def elemsOf (st:St) (ei:TI):AV → Option (List AV)
 | .slice _ es => some es
 | .row l off len _ => rowElems st ei l off len
 | .str s => some (s.map fun b => .int .u8 (.ofNat b))
 | _ => none
def roomy (len bytes:Nat):Bool:=decide (len * bytes ≤ 1099511627776) && decide (bytes ≤ 1048576) && decide (len ≤ 1099511627776)
def fresh (mu:Bool) (elem:TypeId) (ei:TI) (st:St) (es:List AV):AV × St :=
 if mu then (.row st.next 0 es.length none,st.push (.mem elem (flat es) false 0))
 else (.slice (.tok st.next ei.size) es,st.push .tok)
def appendRow (mu:Bool) (st:St) (elem:TypeId) (ei:TI) (l off len:Nat) (lim:Option Nat) (ys:List AV):Option (AV × St) :=
 match st.heap l with
 | .mem e cells full fz => if e ≠ elem then none else
  if limOk lim (len + ys.length) = true then
   if off + (len + ys.length) * ei.size ≤ cells.length then (sto st l (off + len * ei.size) (flat ys)).map fun st => (.row l off (len + ys.length) lim,st)
   else if full = true then (rowElems st ei l off len).map fun es => fresh mu elem ei st (es ++ ys)
   else if off + len * ei.size = cells.length then some (.row st.next 0 (len + ys.length) lim,(st.set l .dead).push (.mem e (cells.drop off ++ flat ys) false (fz - off)))
   else none
  else (rowElems st ei l off len).map fun es => fresh mu elem ei st (es ++ ys)
 | _ => none
def appendSl (mu:Bool) (st:St) (elem:TypeId) (ei:TI) (k:SK) (es ys:List AV):Option (AV × St) :=
 match k with
 | .nil | .exact => some (fresh mu elem ei st (es ++ ys))
 | .tok t sz => (match st.heap t with
  | .tok => if sz = ei.size ∧ mu = false then some (fresh mu elem ei (st.set t .dead) (es ++ ys)) else none
  | _ => none)
 | .open_ => none
def appendA (mu:Bool) (st:St) (elem:TypeId) (ei:TI) (s:AV) (ys:List AV):Option (AV × St) :=
 match ys with
 | [] => (match s with | .slice k es => some (.slice k es,st) | .row l off len lim => some (.row l off len lim,st) | _ => none)
 | _ :: _ => if sized ei.size ys = true ∧ 0 < ei.size ∧ (flat ys).all AV.isCell = true then
  (match s with
  | .slice k es => if sizedH ei.size es = true ∧ roomy (es.length + ys.length) ei.bytes = true then appendSl mu st elem ei k es ys else none
  | .row l off len lim => if roomy (len + ys.length) ei.bytes = true then appendRow mu st elem ei l off len lim ys else none
  | _ => none) else none
def freezeV (C:Ctx) (st:St):AV → Option (AV × St)
 | .row l off len lim => (match st.heap l with
  | .mem e _ _ _ => (match C.ty e with
   | some ei => (rowElems st ei l off len).map fun es => (.slice (if lim = some len then .exact else .open_) es,st.set l .dead)
   | none => none)
  | _ => none)
 | v => some (v,st)
def freezeVs (C:Ctx):St → List AV → Option (List AV × St)
 | st,[] => some ([],st)
 | st,v :: r => (match freezeV C st v with
  | some (v,st) => (match freezeVs C st r with | some (r,st) => some (v :: r,st) | none => none)
  | none => none)
def freezeR (C:Ctx) (st:St):AV → Option (AV × St)
 | .tuple vs => (freezeVs C st vs).map fun x => (.tuple x.1,x.2)
 | .agg vs => (freezeVs C st vs).map fun x => (.agg x.1,x.2)
 | v => freezeV C st v
inductive OPR where
 | val (v:AV) (st:St)
 | pan (v:AV) (st:St)
 | dfr (d:ADef) (st:St)
 | rcv
def ov (st:St) (r:Option AV):Option OPR:=r.map fun v => .val v st
def ovs (r:Option (AV × St)):Option OPR:=r.map fun x => .val x.1 x.2
def goI (n:Nat):AV:=.int .i64 (.ofNat n)
def lenA (C:Ctx) (st:St) (t:TypeId) (x:AV):Option AV :=
 match C.ty t with
 | none => none
 | some ti => (match ti.und,x with
  | .string,.str s => some (goI s.length)
  | .slice _,.slice _ es => some (goI es.length)
  | .slice _,.row _ _ len _ => some (goI len)
  | .map _ _,.nilmap => some (goI 0)
  | .map _ _,.map l => (match st.heap l with | .amap es _ => some (goI es.length) | _ => none)
  | _,_ => none)
def elemTI (C:Ctx) (t:TypeId):Option (TypeId × TI) :=
 match C.ty t with
 | some { und:=.slice e,.. } => (C.ty e).map fun ei => (e,ei)
 | _ => none
def capA (C:Ctx) (st:St) (t:TypeId) (x:AV):Option AV :=
 match elemTI C t with
 | none => none
 | some _ => (match x with
  | .slice .nil _ => some (goI 0)
  | .slice .exact es => some (goI es.length)
  | .row _ _ _ (some c) => some (goI c)
  | .row l off _ none => (match st.heap l with
   | .mem e cells true _ => (match sizeIs C e with | some (s + 1) => some (goI ((cells.length - off) / (s + 1))) | _ => none)
   | _ => none)
  | _ => none)
def maxA (isMax:Bool):AV → List AV → Option AV
 | v,[] => some v
 | .int k x,.int _ y :: r => maxA isMax (.int k (if isMax then (if y > x then y else x) else (if y < x then y else x))) r
 | _,_ => none
def builtinAppend (C:Ctx) (mu:Bool) (st:St) (t u:TypeId) (s x:AV):Option (AV × St) :=
 match elemTI C t,C.ty u with
 | some (e,ei),some ui => (match ui.und with
  | .int _ => (match natOf x with
   | some n => if n ≤ 1048576 then appendA mu st e ei s (List.replicate n ei.zeroV) else none
   | none => none)
  | _ => (elemsOf st ei x).bind (appendA mu st e ei s))
 | _,_ => none
def builtinCopy (C:Ctx) (st:St) (t:TypeId) (d s:AV):Option (AV × St) :=
 match elemTI C t with
 | some (_,ei) => (match elemsOf st ei s,d with
  | some ys,.row l off len _ => if sizedH ei.size (ys.take len) = true ∧ 0 < ei.size then (sto st l off (flat (ys.take len))).map fun st => (goI (ys.take len).length,st) else none
  | some ys,.slice _ es => if ys = [] ∨ es = [] then some (goI 0,st) else none
  | _,_ => none)
 | none => none
def builtinClear (C:Ctx) (st:St) (t:TypeId) (x:AV):Option (AV × St) :=
 match C.ty t with
 | none => none
 | some ti => (match ti.und,x with
  | .map _ _,.nilmap => some (undefA,st)
  | .map _ _,.map l => (match st.heap l with | .amap _ clock => some (undefA,st.set l (.amap [] clock)) | _ => none)
  | .slice _,.slice _ [] => some (undefA,st)
  | .slice e,.row l off len _ => (match C.ty e with
   | some ei => (sto st l off (flat (List.replicate len ei.zeroV))).map fun st => (undefA,st)
   | none => none)
  | _,_ => none)
def unsafeStr (C:Ctx) (st:St) (t:TypeId) (p:AV) (n:Nat):Option (AV × St) :=
 match p with
 | .nilp => if n = 0 then some (.str [],st) else none
 | .ptr l off => if n = 0 then some (.str [],st) else (match C.ty t,st.heap l with
  | some { und:=.pointer u,.. },.mem e cells full fz => (match C.ty u with
   | some { und:=.int .u8,size:=1,.. } => if e = u ∧ off + n ≤ cells.length ∧ n < 4294967296 then
     (bytesOf? ((cells.drop off).take n)).map fun s => (.str s,st.set l (.mem e cells full (max fz (off + n)))) else none
   | _ => none)
  | _,_ => none)
 | _ => none
def builtinA (C:Ctx) (mu:Bool) (ro:Bool) (fr:Fr) (st:St) (b:Builtin) (ts:List TypeId) (args:List AV):Option OPR :=
 match b,args with
 | .len,[x] => (match ts with | t :: _ => ov st (lenA C st t x) | [] => none)
 | .cap,[x] => (match ts with | t :: _ => ov st (capA C st t x) | [] => none)
 | .append,[s,x] => (match ts with | t :: u :: _ => ovs (builtinAppend C mu st t u s x) | _ => none)
 | .copy,[d,s] => (match ts with | t :: _ => ovs (builtinCopy C st t d s) | [] => none)
 | .clear,[x] => (match ts with | t :: _ => ovs (builtinClear C st t x) | [] => none)
 | .max,v :: r => ov st (maxA true v r)
 | .min,v :: r => ov st (maxA false v r)
 | .unsafeSliceData,[x] => ov st (match x with
  | .slice .nil _ => some .nilp
  | .row l off len _ => if 0 < len then some (.ptr l off) else none
  | _ => none)
 | .unsafeString,[p,x] => (match natOf x,ts with | some n,t :: _ => ovs (unsafeStr C st t p n) | _,_ => none)
 | .recover,[] => if ro then none else (match fr.pv with | some _ => some .rcv | none => some (.val .nilif st))
 | _,_ => none
def assertA (C:Ctx) (x:AV) (t:TypeId) (ok:Bool):Option AV :=
 match C.ty t with
 | none => none
 | some ti => (match ti.und,x with
  | .interface want,.iface u v => if want.toList = [] ∧ (C.ty u).isSome = true then some (if ok then .tuple [.iface u v,.bool true] else .iface u v) else none
  | .interface _,_ => none
  | _,.nilif => if ok then some (.tuple [ti.zeroV,.bool false]) else none
  | _,.iface u v => if u = t then some (if ok then .tuple [v,.bool true] else v) else if ok then some (.tuple [ti.zeroV,.bool false]) else none
  | _,_ => none)
def buildA (C:Ctx) (t:TypeId) (parts:List (Nat × AV)):Option AV :=
 match C.ty t with
 | some { und:=.struct _,zero:=z,places:=pl,.. } => (fillA (pl[·]?) z parts).map .agg
 | some { und:=.array _ e,zero:=z,.. } => (match sizeIs C e with
  | some size => (fillA (fun i => some (i * size,size)) z parts).map .agg
  | none => none)
 | _ => none
def buildSliceA (C:Ctx) (mu:Bool) (st:St) (t:TypeId) (len:Nat) (parts:List (Nat × AV)):Option (AV × St) :=
 match elemTI C t with
 | some (e,ei) => if parts.length = len ∧ len * ei.size ≤ 1048576 then (match elemsA ei.size 0 parts with
  | some es => if mu then (if 0 < ei.size then some (.row st.next 0 len none,st.push (.mem e (flat es) true 0)) else none) else some (.slice .exact es,st)
  | none => none) else none
 | none => none
def makeSliceA (C:Ctx) (st:St) (t:TypeId) (l c:AV):Option (AV × St) :=
 match elemTI C t,natOf l,natOf c with
 | some (e,ei),some n,some m => if n ≤ m ∧ roomy m ei.bytes = true ∧ m ≤ 4294967296 ∧ 0 < ei.size then
   some (.row st.next 0 n none,st.push (.mem e (flat (List.replicate m ei.zeroV)) true 0)) else none
 | _,_,_ => none
def nextA (st:St) (it:AV):Option (AV × St) :=
 match it with
 | .ptr l 0 => (match st.heap l with
  | .siter s pos => (match s.drop pos with
   | [] => some (.tuple [.bool false],st)
   | b :: _ => if b < 128 then some (.tuple [.bool true,goI pos,.int .i32 (.ofNat b)],st.set l (.siter s (pos + 1))) else none)
  | _ => none)
 | _ => none
def rangeM (st:St):AV → Option (AV × St)
 | .nilmap => some (.ptr st.next 0,st.push (.miter none 0 [] 0))
 | .map l => (match st.heap l with
  | .amap _ clock => some (.ptr st.next 0,st.push (.miter (some l) clock [] clock))
  | _ => none)
 | _ => none
def entryM (st:St):AV → Option AV
 | .ptr l 0 => (match st.heap l with
  | .miter (some m) _ seen last => (match seen.getLast?,st.heap m with
   | some b,.amap es clock => if clock = last then (match es.filter (fun e => e.2.2 == b) with
    | [(k,v,_)] => some (.tuple [k,v])
    | _ => none) else none
   | _,_ => none)
  | _ => none)
 | _ => none
def opA (C:Ctx) (mu:Bool) (ro:Bool) (fr:Fr) (st:St) (o:Oper):Option OPR :=
 match o.op with
 | .move x | .assign x => some (.val (oval C fr x) st)
 | .pick c a b => (match oval C fr c with | .bool x => some (.val (if x then oval C fr a else oval C fr b) st) | _ => none)
 | .alloc e => (C.ty e).map fun ei => .val (.ptr st.next 0) (st.push (.mem e ei.zero true 0))
 | .box e x => if (oval C fr x).isAny then none else some (.val (.ptr st.next 0) (st.push (.mem e (oval C fr x).cells true 0)))
 | .build t parts => ov st (buildA C t (parts.toList.map fun p => (p.1,oval C fr p.2)))
 | .buildSlice t len parts => ovs (buildSliceA C mu st t len (parts.toList.map fun p => (p.1,oval C fr p.2)))
 | .load t a => ov st (ld C st t (oval C fr a))
 | .store t a x => (match sizeIs C t,oval C fr a with
  | some size,.ptr l off => if (oval C fr x).cells.length = size then (sto st l off (oval C fr x).cells).map fun st => .val undefA st else none
  | _,_ => none)
 | .nilCheck x => (match oval C fr x with
  | .ptr l a => some (.val (.ptr l a) st)
  | .cptr cs => some (.val (.cptr cs) st)
  | .func (.func f) a b => some (.val (.func (.func f) a b) st)
  | _ => none)
 | .binOp op t x y _ => ov st (binA C op t x y (oval C fr x) (oval C fr y))
 | .unOp op _ x => ov st (unA op (oval C fr x))
 | .convert s d x => ov st (convA C st s d (oval C fr x))
 | .makeInterface t x => (match C.ty t with
  | some { und:=.interface _,.. } => none
  | some _ => some (.val (.iface t (oval C fr x)) st)
  | none => none)
 | .makeFunc fn first captured => (match fn with
  | .func f => some (.val (.func (.func f) (first.toList.map (oval C fr)) (captured.toList.map (oval C fr))) st)
  | _ => none)
 | .makeMap _ r => if r.isSome then none else some (.val (.map st.next) (st.push (.amap [] 0)))
 | .makeSlice t l c => ovs (makeSliceA C st t (oval C fr l) (oval C fr c))
 | .slice t x lo hi mx => (match boundA C fr lo,boundA C fr hi,boundA C fr mx with
  | some lo,some hi,some mx => ov st (sliceA C st t (oval C fr x) lo hi mx)
  | _,_,_ => none)
 | .fieldAddr t x f => ov st (fieldAddrA C t (oval C fr x) f)
 | .field t x f => ov st (fieldA C t (oval C fr x) f)
 | .indexAddr t x i => (match natOf (oval C fr i) with | some i => ov st (indexAddrA C t (oval C fr x) i) | none => none)
 | .index t x i => (match natOf (oval C fr i) with | some i => ov st (indexA C t (oval C fr x) i) | none => none)
 | .lookup t x i ok => ov st (lookupA C st t (oval C fr x) (oval C fr i) ok)
 | .mapUpdate t m k x => (mapUpd C st t (oval C fr m) (oval C fr k) (oval C fr x) false).map fun st => .val undefA st
 | .insert t m k x => (mapUpd C st t (oval C fr m) (oval C fr k) (oval C fr x) true).map fun st => .val undefA st
 | .range t x => (match C.ty t,oval C fr x with
  | some { und:=.string,.. },.str s => some (.val (.ptr st.next 0) (st.push (.siter s 0)))
  | some { und:=.map _ _,.. },x => ovs (rangeM st x)
  | _,_ => none)
 | .entry it => ov st (entryM st (oval C fr it))
 | .next it isString => if isString then ovs (nextA st (oval C fr it)) else none
 | .typeAssert x _ t ok => ov st (assertA C (oval C fr x) t ok)
 | .extract x i => (match oval C fr x with | .tuple vs => ov st vs[i]? | _ => none)
 | .call c => (match c.callee with
  | .builtin b => builtinA C mu ro fr st b c.argTypes.toList (c.args.toList.map (oval C fr))
  | _ => none)
 | .defer c => if ro then none else (match c.callee with
  | .value f => (match oval C fr f with
   | .func (.func g) first captured => some (.dfr ⟨some g,0,first ++ c.args.toList.map (oval C fr) ++ captured⟩ st)
   | _ => none)
  | _ => none)
 | .panic x => (match oval C fr x with
  | .iface t v => some (.pan (.iface t v) st)
  | _ => none)
 | _ => none
inductive Tgt where
 | fn (f:FuncId)
 | yield (l:Nat)
inductive CR where
 | ret (v:AV)
 | pan (v:AV)
inductive Knd where
 | normal
 | deferred (pv:Option AV)
abbrev CallF:=Tgt → List AV → Knd → St → Option (CR × St × Option AV)
inductive EX where
 | norm
 | exit (id:Nat)
 | goto (l:Nat)
 | ret
 | pan (v:AV)
abbrev Out:=EX × Fr × St
def calleeA (C:Ctx) (fr:Fr) (c:Call):Option (Tgt × List AV) :=
 match c.callee with
 | .value f => (match oval C fr f with
  | .func (.func g) first captured => some (.fn g,first ++ c.args.toList.map (oval C fr) ++ captured)
  | .func (.yield l) [] [] => some (.yield l,c.args.toList.map (oval C fr))
  | _ => none)
 | _ => none
def wantedA (ops:Array Oper) (fr:Fr) (o:Oper):Option Bool :=
 match o.guard with
 | none => some true
 | some (j,w) => (match (ops[j]?).bind (·.dst) with
  | some d => (match fr.tmps d with | .bool b => some (b == w) | .any => none | _ => some false)
  | none => some false)
def callA (call:CallF) (C:Ctx) (o:Oper) (fr:Fr) (st:St):Option Out :=
 match o.op with
 | .call c => (match calleeA C fr c with
  | some (tgt,args) => (match call tgt args .normal st with
   | some (.ret v,st,_) => some (.norm,fr.put o.dst v,st)
   | some (.pan v,st,_) => some (.pan v,fr,st)
   | none => none)
  | none => none)
 | _ => none
def runOp (call:CallF) (C:Ctx) (mu:Bool) (ro:Bool) (o:Oper) (fr:Fr) (st:St):Option Out :=
 match opA C mu ro fr st o with
 | some (.val v st) => some (.norm,fr.put o.dst v,st)
 | some (.pan v st) => some (.pan v,fr,st)
 | some (.dfr d st) => some (.norm,Fr.put { fr with defs:=d :: fr.defs } o.dst undefA,st)
 | some .rcv => (match fr.pv with | some v => some (.norm,Fr.put { fr with pv:=none } o.dst v,st) | none => none)
 | none => callA call C o fr st
def runOps (call:CallF) (C:Ctx) (mu:Bool) (ro:Bool) (ops:Array Oper):List Oper → Fr → St → Option Out
 | [],fr,st => some (.norm,fr,st)
 | o :: rest,fr,st => (match wantedA ops fr o with
  | none => none
  | some false => runOps call C mu ro ops rest (fr.put o.dst undefA) st
  | some true => (match runOp call C mu ro o fr st with
   | some (.norm,fr,st) => runOps call C mu ro ops rest fr st
   | r => r))
def quietOp (C:Ctx):Op → Bool
 | .move _ | .assign _ | .pick .. | .alloc _ | .box .. | .build .. | .buildSlice .. | .nilCheck _ | .unOp .. | .makeInterface .. | .makeFunc .. | .makeMap .. | .makeSlice .. | .fieldAddr .. | .field .. | .indexAddr .. | .index ..
 | .typeAssert .. | .extract .. | .binOp .. => true
 | .convert _ d _ => (match C.ty d with | some { und:=.int _,.. } | some { und:=.string,.. } => true | _ => false)
 | .slice t .. => (match C.ty t with | some { und:=.string,.. } => true | _ => false)
 | .call { callee:=.builtin .len,argTypes:=ts,.. } => (match ts[0]? with | some t => (match C.ty t with | some { und:=.slice _,.. } | some { und:=.string,.. } => true | _ => false) | none => false)
 | .call { callee:=.builtin .max,.. } | .call { callee:=.builtin .min,.. } => true
 | _ => false
structure Info where
 log:List Nat
 rd:Option (List Nat)
 lo:Nat
 hi:Nat
def readsA (C:Ctx) (fr:Fr) (o:Oper):Option (List Nat) :=
 match o.op with
 | .load _ a => (match oval C fr a with | .ptr l _ => some [l] | _ => some [])
 | .lookup _ m _ _ => (match oval C fr m with | .map l => some [l] | _ => some [])
 | .insert _ m _ _ => (match oval C fr m with | .map l => some [l] | _ => none)
 | .store _ a _ => (match oval C fr a with | .ptr l _ => some [l] | _ => none)
 | op => if quietOp C op then some [] else none
def AO.isDead:AO → Bool | .dead => true | _ => false
def runDraw (calls:Nat → CallF) (C:Ctx) (mu:Bool) (ro:Bool) (ops:Array Oper):Nat → List Oper → Fr → St → Option (Fr × St × List Info)
 | _,[],fr,st => some (fr,st,[])
 | i,o :: rest,fr,st => (match wantedA ops fr o with
  | none => none
  | some false => (match runDraw calls C mu ro ops (i + 1) rest (fr.put o.dst undefA) st with
   | some (fr,st,info) => some (fr,st,⟨[],some [],0,0⟩ :: info)
   | none => none)
  | some true => (match runOp (calls i) C mu ro o fr ⟨st.heap,st.next,[]⟩ with
   | some (.norm,fr',st') => if st'.log.all (fun l => decide (l < st.next) && !(st.heap l).isDead) then
     (match runDraw calls C mu ro ops (i + 1) rest fr' ⟨st'.heap,st'.next,st'.log ++ st.log⟩ with
     | some (fr2,st2,info) => some (fr2,st2,⟨st'.log,readsA C fr o,st.next,st'.next⟩ :: info)
     | none => none) else none
   | _ => none))
def ordered (bs:List Nat) (i j:Nat):Bool:=i == j || (bs.getD j 0).testBit i || (bs.getD i 0).testBit j
def mayMeet (n0:Nat) (b:Nat) (l:Nat):Nat → List Info → Bool
 | _,[] => decide (l < n0)
 | k,x :: r => (decide (x.lo ≤ l) && decide (l < x.hi) && b.testBit k) || mayMeet n0 b l (k + 1) r
def meets (n0:Nat) (info:List Info) (b:Nat) (ls:List Nat) (x:Info):Bool :=
 match x.rd with | none => ls.any fun l => mayMeet n0 b l 0 info | some rs => rs.any fun r => ls.any fun l => l == r
def insT:Op → Option TypeId | .insert t _ _ _ => some t | _ => none
def insL (ops:Array Oper):List (Option TypeId):=ops.toList.map fun o => insT o.op
def sameIns (ins:List (Option TypeId)) (i k:Nat):Bool:=match ins.getD i none with
 | some t => ins.getD k none == some t
 | none => false
def orderOk1 (n0:Nat) (bs:List Nat) (ins:List (Option TypeId)) (info:List Info) (i:Nat) (ls:List Nat):Nat → List Info → Bool
 | _,[] => true
 | k,x :: r => (!meets n0 info (bs.getD k 0) ls x || (ordered bs i k || (x.rd.isSome && sameIns ins i k))) && orderOk1 n0 bs ins info i ls (k + 1) r
def orderOk (n0:Nat) (bs:List Nat) (ins:List (Option TypeId)) (info:List Info):Nat → List Info → Bool
 | _,[] => true
 | i,x :: r => (x.log.isEmpty || ((x.log.all fun l => mayMeet n0 (bs.getD i 0) l 0 info) && orderOk1 n0 bs ins info i x.log 0 info)) && orderOk n0 bs ins info (i + 1) r
def tmpsOf (xs:Array Operand):List Tmp:=xs.toList.filterMap fun | .tmp t => some t | _ => none
def namesOf (ops:Array Oper) (o:Oper):List Tmp :=
 o.dst.toList ++ tmpsOf o.op.operands ++ (match o.guard with | none => [] | some (j,_) => ((ops[j]?).bind (·.dst)).toList)
def plainOp:Op → Bool
 | .defer _ => false
 | .call { callee:=.builtin .recover,.. } => false
 | _ => true
def drawable1 (ops:Array Oper) (bs:List Nat) (j:Nat) (o:Oper):Bool :=
 plainOp o.op && o.after.toList.all (fun e => !Region.binds .any e || decide (e.on < j)) &&
 (namesOf ops o).all fun t => ops.toList.zipIdx.all fun x => !(x.1.dst == some t) || ordered bs x.2 j
def drawable (ops:Array Oper):Bool:=ops.toList.zipIdx.all fun x => drawable1 ops (Region.before ops).toList x.2 x.1
def region (call:CallF) (C:Ctx) (mu:Bool) (ro:Bool) (ops:Array Oper) (draw:Bool) (fr:Fr) (st:St):Option Out :=
 if draw then
  match runDraw (fun _ => call) C mu ro ops 0 ops.toList fr st with
  | none => none
  | some (fr,st',info) => if orderOk st.next (Region.before ops).toList (insL ops) info 0 info = true ∧ drawable ops = true then some (.norm,fr,st') else none
 else runOps call C mu ro ops ops.toList fr st
def iter (f:Fr → St → Option Out):Nat → Fr → St → Option Out
 | 0,_,_ => none
 | n + 1,fr,st => (match f fr st with
  | some (.norm,fr,st) => iter f n fr st
  | r => r)
open Classical in
noncomputable def iterW (f:Fr → St → Option Out) (fr:Fr) (st:St):Option Out :=
 if h:∃ out,∃ n,iter f n fr st = some out then some h.choose else none
noncomputable def iterO (f:Fr → St → Option Out):Option Nat → Fr → St → Option Out
 | some n,fr,st => iter f n fr st
 | none,fr,st => iterW f fr st
def jumpEx:Option Code → Option EX
 | none => some .norm
 | some .ret => some .ret
 | some (.exit id) => some (.exit id)
 | some (.goto l) => some (.goto l)
 | some _ => none
def exJump:EX → Option (Option Code)
 | .norm => some none
 | .ret => some (some .ret)
 | .exit id => some (some (.exit id))
 | .goto l => some (some (.goto l))
 | .pan _ => none
def rangeLoop (call:CallF) (self:FuncId) (g:FuncId) (first captured:List AV) (params:List Tmp) (assign body:Code) (d:Nat) (fr:Fr) (st:St):Option Out :=
 match call (.fn g) (first ++ [.func (.yield st.next) [] []] ++ captured) .normal (st.push (.loop self fr.tmps fr.n params assign body .ready none d)) with
 | some (.ret _,st2,_) => (match st2.heap st.next with
  | .loop s t m p a b state pending d => if state = .busy then none else (jumpEx pending).map fun e => (e,fr,st2.set st.next (.loop s t m p a b .exhausted pending d))
  | _ => none)
 | some (.pan v,st2,_) => some (.pan v,fr,st2)
 | none => none
noncomputable def exec (call:CallF) (C:Ctx) (n:Option Nat) (self:FuncId) (ro:Option Nat):Code → Fr → St → Option Out
 | .skip,fr,st => some (.norm,fr,st)
 | .label _,fr,st => some (.norm,fr,st)
 | .region _ ops draw,fr,st => region call C (C.mu self) ro.isSome ops draw fr st
 | .seq a b,fr,st => (match exec call C n self ro a fr st with
  | some (.norm,fr,st) => exec call C n self ro b fr st
  | r => r)
 | .cond c a b,fr,st => (match oval C fr c with
  | .bool x => if x then exec call C n self ro a fr st else exec call C n self ro b fr st
  | _ => none)
 | .block id b,fr,st => (match exec call C n self ro b fr st with
  | some (.exit i,fr,st) => if i = id then some (.norm,fr,st) else some (.exit i,fr,st)
  | r => r)
 | .loop b,fr,st => iterO (exec call C n self ro b) n fr st
 | .rangeFunc f params assign body,fr,st => (match oval C fr f with
  | .func (.func g) first captured => if (C.fn g).isNone then none else (match ro with
   | none => rangeLoop call self g first captured params.toList assign body st.next { fr with defs:=⟨none,st.next,[]⟩ :: fr.defs } (st.push .dfr)
   | some l0 => (match st.heap l0 with
    | .loop _ _ _ _ _ _ _ _ d => rangeLoop call self g first captured params.toList assign body d fr st
    | _ => none))
  | _ => none)
 | .exit id,fr,st => some (.exit id,fr,st)
 | .goto l,fr,st => some (.goto l,fr,st)
 | .ret,fr,st => some (.ret,fr,st)
 | .scope _,_,_ => none
 | .refuse _,_,_ => none
def argTmps (args:List AV):Nat → AV:=fun i => args.getD i undefA
def setParams:List (Tmp × AV) → Nat → (Nat → AV) → (Nat → AV)
 | [],_,t => t
 | (d,v) :: r,n,t => setParams r n (if d < n then upd t d v else t)
def resultsA (C:Ctx) (st:St) (tmps:Nat → AV):List ResultVar → Option (List AV)
 | [] => some []
 | .tmp t :: r => (resultsA C st tmps r).map (tmps t :: ·)
 | .cell a t :: r => (match ld C st t (tmps a),resultsA C st tmps r with
  | some v,some l => some (v :: l)
  | _,_ => none)
def packA:List AV → AV | [v] => v | vs => .tuple vs
def runDefs (call:CallF):List ADef → Option AV → St → Option (Option AV × St)
 | [],pv,st => some (pv,st)
 | ⟨none,l,_⟩ :: ds,pv,st => (match st.heap l with
  | .dfr => runDefs call ds pv (st.set l .dead)
  | _ => none)
 | ⟨some f,_,args⟩ :: ds,pv,st => (match call (.fn f) args (.deferred pv) st with
  | some (.ret _,st,pv) => runDefs call ds pv st
  | _ => none)
def Knd.pv:Knd → Option AV | .normal => none | .deferred pv => pv
def endOf:EX → Option (Option AV)
 | .norm | .ret => some none
 | .pan v => some (some v)
 | _ => none
def SK.forget:SK → SK | .tok _ _ => .open_ | k => k
def untok:AV → AV
 | .slice k es => .slice k.forget (untokL es)
 | .agg xs => .agg (untokL xs)
 | .tuple xs => .tuple (untokL xs)
 | .iface t v => .iface t (untok v)
 | v => v
 where untokL:List AV → List AV
 | [] => []
 | v :: r => untok v :: untokL r
def belowA (n:Nat):AV → Bool
 | .ptr l _ => decide (l < n)
 | .row l _ _ _ => decide (l < n)
 | .map l => decide (l < n)
 | .func (.yield l) _ _ => decide (l < n)
 | .func _ xs ys => belowL n xs && belowL n ys
 | .slice (.tok t _) es => decide (t < n) && belowL n es
 | .slice _ es => belowL n es
 | .cptr es => belowL n es
 | .iface _ v => belowA n v
 | .agg xs => belowL n xs
 | .tuple xs => belowL n xs
 | _ => true
 where belowL (n:Nat):List AV → Bool
 | [] => true
 | v :: r => belowA n v && belowL n r
def leaveSt (st0:St) (vs:List AV) (st:St):St :=
 if (st.log.all fun l => decide (st0.next ≤ l)) && belowA.belowL st0.next vs then st0 else ⟨st.heap,st.next,st.log.filter (· < st0.next) ++ st0.log⟩
def finishFn (call:CallF) (C:Ctx) (f:FuncId) (fi:FI) (kd:Knd) (st0:St) (e:EX) (fr:Fr) (st1:St):Option (CR × St × Option AV) :=
 match endOf e with
 | none => none
 | some pv => (match runDefs call fr.defs pv st1 with
  | none => none
  | some (some v,st2) => some (.pan v,leaveSt st0 (v :: fr.pv.toList) st2,fr.pv)
  | some (none,st2) => (match resultsA C st2 fr.tmps fi.results with
   | none => none
   | some vs => (match (if C.frz f then (freezeR C st2 (packA vs)).map (fun x => (untok x.1,x.2)) else some (packA vs,st2)) with
    | some (v,st3) => some (.ret v,leaveSt st0 (v :: fr.pv.toList) st3,fr.pv)
    | none => none)))
noncomputable def enterFn (call:CallF) (C:Ctx) (n:Option Nat) (f:FuncId) (fi:FI) (args:List AV) (kd:Knd) (st:St):Option (CR × St × Option AV) :=
 match exec call C n f none fi.body ⟨argTmps args,max fi.ntmps args.length,[],kd.pv⟩ ⟨st.heap,st.next,[]⟩ with
 | none => none
 | some (e,fr,st1) => finishFn call C f fi kd st e fr st1
noncomputable def roundA (call:CallF) (C:Ctx) (n:Option Nat) (l:Nat) (self:FuncId) (tmps:Nat → AV) (m:Nat) (params:List Tmp) (assign body:Code) (args:List AV) (st:St):Option (CR × St × Option AV) :=
 if args.length = params.length ∧ (C.fn self).isNone = false then
  match exec call C n self (some l) assign ⟨setParams (params.zip args) m tmps,m,[],none⟩ st with
  | some (.norm,fr,st1) => (match st1.heap l with
   | .loop s t m' p a b .ready pe d =>
    (match exec call C n self (some l) body fr (st1.set l (.loop s t m' p a b .busy pe d)) with
    | some (.pan v,fr3,st3) => (match fr3.defs with | [] => some (.pan v,st3,none) | _ => none)
    | some (e,_,st3) => (match st3.heap l,exJump e with
     | .loop s t m' p a b _ _ d,some jump => some (.ret (.bool jump.isNone),st3.set l (.loop s t m' p a b (if jump.isNone then .ready else .done) jump d),none)
     | _,_ => none)
    | none => none)
   | _ => none)
  | _ => none
 else none
noncomputable def callN (C:Ctx) (lp:Nat → Option Nat):Nat → CallF
 | 0,_,_,_,_ => none
 | n + 1,.fn f,args,kd,st =>
  (match (match kd with | .normal => C.X f args st | _ => none) with
  | some (v,st) => some (.ret v,st,none)
  | none => (match C.fn f with
   | none => none
   | some fi => enterFn (callN C lp n) C (lp n) f fi args kd st))
 | n + 1,.yield l,args,kd,st =>
  (match kd,st.heap l with
  | .normal,.loop self tmps m params assign body _ _ _ => roundA (callN C lp n) C (lp n) l self tmps m params assign body args st
  | _,_ => none)
end Go.AE

namespace Go.AE
open Go
structure Loc where
 blk:Nat
 dl:Nat
 tot:Nat
 sz:Nat
structure Gh where
 loc:Nat → Option Loc
 K:Nat → Nat → Prop
 base:Nat
def SKok (G:Gh) (k:SK) (es:List AV) (a:Option Addr) (cap:Nat):Prop :=
 match k with
 | .nil => a = none ∧ cap = 0 ∧ es = []
 | .exact => a.isSome = true ∧ cap = es.length
 | .open_ => a.isSome = true ∧ es.length ≤ cap
 | .tok t sz => ∃ L,G.loc t = some L ∧ a.isSome = true ∧ es.length ≤ cap ∧ 0 < sz ∧ (∀ e ∈ es,e.cells.length = sz) ∧
   (cap = 0 ∨ ∃ o,a = some ⟨L.blk,o,none⟩ ∧ o + es.length * sz = L.dl ∧ o + cap * sz = L.tot)
def Konst (G:Gh) (w:World) (a:Option Addr) (n:Nat) (vals:Nat → Value):Prop :=
 ∀ i,i < n → ∃ b o,a = some ⟨b,o,none⟩ ∧ G.K b (o + i) ∧ w.cell? ⟨b,o + i,none⟩ = some (vals i)
inductive VR (G:Gh) (w:World):AV → Value → Prop
 | any (v:Value):VR G w .any v
 | bool (b:Bool):VR G w (.bool b) (.bool b)
 | int (k:IntKind) (n:Int):VR G w (.int k n) (.int k n)
 | str (s:ByteArray):VR G w (.str (s.data.toList.map (·.toNat))) (.string s)
 | nilp:VR G w .nilp (.pointer none)
 | ptr (l off:Nat) (L:Loc) (h:G.loc l = some L):VR G w (.ptr l off) (.pointer (some ⟨L.blk,L.dl + off,none⟩))
 | cptr (cells:List AV) (a:Addr) (vals:Nat → Value) (hc:Konst G w (some a) cells.length vals) (hv:∀ i,i < cells.length → VR G w (cells.getD i .any) (vals i)) :
   VR G w (.cptr cells) (.pointer (some a))
 | slice (k:SK) (es:List AV) (a:Option Addr) (cap:Nat) (vals:Nat → Value) (hk:SKok G k es a cap) (hc:Konst G w a (flat es).length vals)
   (hv:∀ i,i < (flat es).length → VR G w ((flat es).getD i .any) (vals i)) (hz:∃ sz,sized sz es = true):VR G w (.slice k es) (.slice a es.length cap)
 | row (l off len:Nat) (lim:Option Nat) (L:Loc) (a:Addr) (cap:Nat) (h:G.loc l = some L) (hl:len ≤ cap) (hs:0 < L.sz) (ha:cap = 0 ∨ a = ⟨L.blk,L.dl + off,none⟩)
   (ht:L.dl + off + cap * L.sz ≤ L.tot) (hm:∀ c,lim = some c → cap = c) (hn:lim = none → L.dl + off + cap * L.sz = L.tot):VR G w (.row l off len lim) (.slice (some a) len cap)
 | nilmap:VR G w .nilmap (.map none)
 | map (l:Nat) (L:Loc) (h:G.loc l = some L):VR G w (.map l) (.map (some L.blk))
 | func (f:FuncId) (xs ys:List AV) (vs us:Array Value) (h1:xs.length = vs.size) (h2:ys.length = us.size)
   (hx:∀ i,i < xs.length → VR G w (xs.getD i .any) (vs.getD i undef)) (hy:∀ i,i < ys.length → VR G w (ys.getD i .any) (us.getD i undef)) :
   VR G w (.func (.func f) xs ys) (.func (.func f) vs us)
 | yield (l:Nat) (L:Loc) (h:G.loc l = some L):VR G w (.func (.yield l) [] []) (.func (.yield L.blk) #[] #[])
 | nilfn:VR G w .nilfn .nilFunc
 | iface (t:TypeId) (x:AV) (v:Value) (h:VR G w x v):VR G w (.iface t x) (.iface t v)
 | nilif:VR G w .nilif .nilIface
 | agg (xs:List AV) (vs:Array Value) (h1:xs.length = vs.size) (hx:∀ i,i < xs.length → VR G w (xs.getD i .any) (vs.getD i undef)):VR G w (.agg xs) (.agg vs)
 | tuple (xs:List AV) (vs:Array Value) (h1:xs.length = vs.size) (hx:∀ i,i < xs.length → VR G w (xs.getD i .any) (vs.getD i undef)):VR G w (.tuple xs) (.tuple vs)
def VRs (G:Gh) (w:World):List AV → List Value → Prop
 | [],[] => True
 | x :: xs,v :: vs => VR G w x v ∧ VRs G w xs vs
 | _,_ => False
structure Ext (G:Gh) (w:World) (G':Gh) (w':World):Prop where
 loc:∀ l L,G.loc l = some L → G'.loc l = some L
 K:∀ b o,G.K b o → G'.K b o
 cell:∀ b o,G.K b o → w'.cell? ⟨b,o,none⟩ = w.cell? ⟨b,o,none⟩
theorem Ext.refl (G:Gh) (w:World):Ext G w G w:=⟨fun _ _ h => h,fun _ _ h => h,fun _ _ _ => rfl⟩
theorem Ext.trans {G G1 G2:Gh} {w w1 w2:World} (h:Ext G w G1 w1) (k:Ext G1 w1 G2 w2):Ext G w G2 w2 :=
 ⟨fun l L e => k.loc l L (h.loc l L e),fun b o e => k.K b o (h.K b o e),fun b o e => (k.cell b o (h.K b o e)).trans (h.cell b o e)⟩
theorem SKok.ext {G G':Gh} {w w':World} (h:Ext G w G' w') {k:SK} {es:List AV} {a:Option Addr} {cap:Nat} (hk:SKok G k es a cap):SKok G' k es a cap:=by
 cases k with
 | tok t sz => obtain ⟨L,hL,r⟩:=hk; exact ⟨L,h.loc t L hL,r⟩
 | _ => exact hk
theorem Konst.ext {G G':Gh} {w w':World} (h:Ext G w G' w') {a:Option Addr} {n:Nat} {vals:Nat → Value} (hk:Konst G w a n vals):Konst G' w' a n vals:=fun i hi => by
 obtain ⟨b,o,e,hK,hc⟩:=hk i hi
 exact ⟨b,o,e,h.K _ _ hK,(h.cell _ _ hK).trans hc⟩
theorem VR.ext {G G':Gh} {w w':World} (h:Ext G w G' w') {x:AV} {v:Value} (hv:VR G w x v):VR G' w' x v:=by
 induction hv with
 | any v => exact .any v
 | bool b => exact .bool b
 | int k n => exact .int k n
 | str s => exact .str s
 | nilp => exact .nilp
 | ptr l off L hl => exact .ptr l off L (h.loc l L hl)
 | cptr cells a vals hc _ ih => exact .cptr cells a vals (hc.ext h) ih
 | slice k es a cap vals hk hc _ hz ih => exact .slice k es a cap vals (hk.ext h) (hc.ext h) ih hz
 | row l off len lim L a cap hl h1 h2 h3 h4 h5 h6 => exact .row l off len lim L a cap (h.loc l L hl) h1 h2 h3 h4 h5 h6
 | nilmap => exact .nilmap
 | map l L hl => exact .map l L (h.loc l L hl)
 | func f xs ys vs us h1 h2 _ _ ihx ihy => exact .func f xs ys vs us h1 h2 ihx ihy
 | yield l L hl => exact .yield l L (h.loc l L hl)
 | nilfn => exact .nilfn
 | iface t x v _ ih => exact .iface t x v ih
 | nilif => exact .nilif
 | agg xs vs h1 _ ih => exact .agg xs vs h1 ih
 | tuple xs vs h1 _ ih => exact .tuple xs vs h1 ih
theorem VRs.ext {G G':Gh} {w w':World} (h:Ext G w G' w'):∀ {xs:List AV} {vs:List Value},VRs G w xs vs → VRs G' w' xs vs
 | [],[],_ => trivial
 | _ :: _,_ :: _,⟨a,b⟩ => ⟨a.ext h,VRs.ext h b⟩
section
variable {G:Gh} {w:World}
theorem VRs.length:∀ {xs:List AV} {vs:List Value},VRs G w xs vs → xs.length = vs.length
 | [],[],_ => rfl
 | _ :: _,_ :: _,h => congrArg (· + 1) (VRs.length h.2)
theorem VRs.get:∀ {xs:List AV} {vs:List Value},VRs G w xs vs → ∀ i,i < xs.length → VR G w (xs.getD i .any) (vs.getD i undef)
 | _ :: _,_ :: _,h,0,_ => h.1
 | _ :: _,_ :: _,h,i + 1,hi => by simpa using VRs.get h.2 i (by simpa using hi)
theorem VRs.mk:∀ {xs:List AV} {vs:List Value},xs.length = vs.length → (∀ i,i < xs.length → VR G w (xs.getD i .any) (vs.getD i undef)) → VRs G w xs vs
 | [],[],_,_ => trivial
 | x :: xs,v :: vs,hl,h => ⟨by simpa using h 0 (by simp),VRs.mk (by simpa using hl) fun i hi => by simpa using h (i + 1) (by simpa using hi)⟩
theorem VRs.append:∀ {xs:List AV} {vs:List Value} {ys:List AV} {us:List Value},VRs G w xs vs → VRs G w ys us → VRs G w (xs ++ ys) (vs ++ us)
 | [],[],_,_,_,h => h
 | _ :: _,_ :: _,_,_,h,k => ⟨h.1,VRs.append h.2 k⟩
theorem VRs.take:∀ {xs:List AV} {vs:List Value} (n:Nat),VRs G w xs vs → VRs G w (xs.take n) (vs.take n)
 | [],[],n,_ => by simp [VRs]
 | _ :: _,_ :: _,0,_ => trivial
 | _ :: _,_ :: _,n + 1,h => ⟨h.1,VRs.take n h.2⟩
theorem VRs.drop:∀ {xs:List AV} {vs:List Value} (n:Nat),VRs G w xs vs → VRs G w (xs.drop n) (vs.drop n)
 | [],[],n,_ => by simp [VRs]
 | _ :: _,_ :: _,0,h => h
 | _ :: _,_ :: _,n + 1,h => by simpa using VRs.drop n h.2
theorem VRs.head:∀ {xs:List AV} {vs:List Value} {x:AV},VRs G w xs vs → xs.head? = some x → ∃ v,vs.head? = some v ∧ VR G w x v
 | _ :: _,v :: _,_,h,e => ⟨v,rfl,by simp at e; exact e ▸ h.1⟩
theorem VRs.getElem?:∀ {xs:List AV} {vs:List Value} {i:Nat} {x:AV},VRs G w xs vs → xs[i]? = some x → ∃ v,vs[i]? = some v ∧ VR G w x v
 | _ :: _,v :: _,0,_,h,e => ⟨v,rfl,by simp at e; exact e ▸ h.1⟩
 | _ :: _,_ :: _,i + 1,_,h,e => by simpa using VRs.getElem? (i:=i) h.2 (by simpa using e)
theorem VRs.of_array {xs:List AV} {vs:Array Value} (h1:xs.length = vs.size) (hx:∀ i,i < xs.length → VR G w (xs.getD i .any) (vs.getD i undef)):VRs G w xs vs.toList :=
 VRs.mk (by simpa using h1) fun i hi => by have:=hx i hi; simpa [Array.getD_eq_getD_getElem?,List.getD_eq_getElem?_getD] using this
theorem VRs.to_array {xs:List AV} {vs:Array Value} (h:VRs G w xs vs.toList):xs.length = vs.size ∧ ∀ i,i < xs.length → VR G w (xs.getD i .any) (vs.getD i undef) :=
 ⟨by simpa using h.length,fun i hi => by have:=h.get i hi; simpa [Array.getD_eq_getD_getElem?,List.getD_eq_getElem?_getD] using this⟩
theorem VR.mkAgg {xs:List AV} {vs:Array Value} (h:VRs G w xs vs.toList):VR G w (.agg xs) (.agg vs):=.agg xs vs h.to_array.1 h.to_array.2
theorem VR.mkTuple {xs:List AV} {vs:Array Value} (h:VRs G w xs vs.toList):VR G w (.tuple xs) (.tuple vs):=.tuple xs vs h.to_array.1 h.to_array.2
theorem VRs.map {α:Type} {f:α → AV} {g:α → Value}:∀ {l:List α},(∀ x ∈ l,VR G w (f x) (g x)) → VRs G w (l.map f) (l.map g)
 | [],_ => trivial
 | _ :: _,h => ⟨h _ (by simp),VRs.map fun x hx => h x (by simp [hx])⟩
end
theorem VR.undef {G:Gh} {w:World}:VR G w undefA Go.undef:=VR.mkTuple (vs:=#[]) trivial
theorem VR.cells {G:Gh} {w:World} {x:AV} {v:Value} (h:VR G w x v) (hx:x ≠ .any):VRs G w x.cells v.cells.toList:=by
 cases h with
 | any => exact absurd rfl hx
 | agg xs vs h1 h => simpa [AV.cells,Value.cells] using VRs.of_array h1 h
 | bool b => exact ⟨.bool b,trivial⟩
 | int k n => exact ⟨.int k n,trivial⟩
 | str s => exact ⟨.str s,trivial⟩
 | nilp => exact ⟨.nilp,trivial⟩
 | ptr l off L h => exact ⟨.ptr l off L h,trivial⟩
 | cptr c a v h1 h2 => exact ⟨.cptr c a v h1 h2,trivial⟩
 | slice k es a cap vals h1 h2 h3 h4 => exact ⟨.slice k es a cap vals h1 h2 h3 h4,trivial⟩
 | row l off len lim L a cap h1 h2 h3 h4 h5 h6 h7 => exact ⟨.row l off len lim L a cap h1 h2 h3 h4 h5 h6 h7,trivial⟩
 | nilmap => exact ⟨.nilmap,trivial⟩
 | map l L h => exact ⟨.map l L h,trivial⟩
 | func f xs ys vs us h1 h2 h3 h4 => exact ⟨.func f xs ys vs us h1 h2 h3 h4,trivial⟩
 | yield l L h => exact ⟨.yield l L h,trivial⟩
 | nilfn => exact ⟨.nilfn,trivial⟩
 | iface t x v h => exact ⟨.iface t x v h,trivial⟩
 | nilif => exact ⟨.nilif,trivial⟩
 | tuple xs vs h1 h => exact ⟨.tuple xs vs h1 h,trivial⟩
end Go.AE

namespace Go.AE
open Go
def unfrozenFrom (fr:Nat × Nat) (d:Nat):Prop:=fr.2 ≤ d
structure CtxOk (C:Ctx):Prop where
 und:∀ t ti,C.ty t = some ti → C.P.underlying t = some ti.und
 info:∀ t ti,C.ty t = some ti → ∃ i,C.P.info? t = some i ∧ i.size = ti.size ∧ i.bytes = ti.bytes ∧ (∃ z,i.zero = some z ∧ z.cells.size = ti.size ∧ ∀ G w,VRs G w ti.zero z.cells.toList)
 agg:∀ t ti,C.ty t = some ti → ti.isAgg = (match ti.und with | .struct _ => true | .array _ _ => true | _ => false)
 places:∀ t ti,C.ty t = some ti → ∀ fs,ti.und = .struct fs → ti.places = fs.toList.map (fun f => (f.offset,(C.P.info? f.type).map (·.size) |>.getD 0)) ∧ ∀ f ∈ fs.toList,(C.P.info? f.type).isSome = true
 fn : ∀ f fi, C.fn f = some fi → ∃ fn, C.P.funcs[f]? = some fn ∧ fn.body = some fi.body ∧ fn.results.toList = fi.results ∧ fn.ntmps = fi.ntmps ∧ (fn.name == "runtime.NumGoroutine") = false
 zv:∀ t ti,C.ty t = some ti → ti.zeroV.cells = ti.zero ∧ ∀ i z,C.P.info? t = some i → i.zero = some z → ∀ G w,VR G w ti.zeroV z
 mixed:C.P.follows .mixedOrders = true
abbrev Ent:=AV × AV × Nat
def EntRel (G:Gh) (w:World):List Ent → List MapEntry → Prop
 | [],[] => True
 | x :: xs,m :: ms => VR G w x.1 m.key ∧ VR G w x.2.1 m.val ∧ EntRel G w xs ms
 | _,_ => False
def MapRel (G:Gh) (w:World) (es:List Ent) (res:List MapEntry):Prop:=∃ es':List Ent,es'.Perm es ∧ EntRel G w es' res ∧ es'.map (·.2.2) = res.map (·.born)
def CellRel (G:Gh) (w:World) (c:Array Value) (dl:Nat) (cells:List AV):Prop :=
 ∀ i,i < cells.length → ∃ v,c[dl + i]? = some v ∧ VR G w (cells.getD i .any) v
def ObjRel (C:Ctx) (G:Gh) (w:World) (L:Loc):AO → Prop
 | .dead => True
 | .mem e cells full fz => ∃ c fr,w.heap[L.blk]? = some (.cells c e fr) ∧ c.size = L.tot ∧ L.dl + cells.length ≤ L.tot ∧ (full = true → L.dl = 0 ∧ cells.length = L.tot) ∧
   CellRel G w c L.dl cells ∧ unfrozenFrom fr (L.dl + fz) ∧ L.sz = (sizeIs C e).getD 0 ∧ fz ≤ cells.length ∧ ∀ o,L.dl ≤ o → ¬ G.K L.blk o
 | .tok => ∃ c e fr,w.heap[L.blk]? = some (.cells c e fr) ∧ c.size = L.tot ∧ L.dl ≤ L.tot ∧ unfrozenFrom fr L.dl ∧ ∀ o,L.dl ≤ o → ¬ G.K L.blk o
 | .amap es cl => ∃ res,w.heap[L.blk]? = some (.map res cl) ∧ MapRel G w es res.toList
 | .miter none since seen last => L.dl = 0 ∧ w.heap[L.blk]? = some (.mapIter none since seen.toArray last)
 | .miter (some m) since seen last => L.dl = 0 ∧ ∃ Lm,G.loc m = some Lm ∧ w.heap[L.blk]? = some (.mapIter (some Lm.blk) since seen.toArray last)
 | .siter s pos => L.dl = 0 ∧ ∃ bs:ByteArray,w.heap[L.blk]? = some (.stringIter bs pos) ∧ bs.data.toList.map (·.toNat) = s
 | .loop f tmps n params assign body state pending d => ∃ rt rd Ld,w.heap[L.blk]? = some (.loop ⟨state,pending,f,rt,params.toArray,assign,body,rd⟩) ∧ rt.size = n ∧ (∀ i,VR G w (tmps i) (rt.getD i undef)) ∧
   G.loc d = some Ld ∧ Ld.blk = rd
 | .dfr => w.heap[L.blk]? = some (.deferred (some []))
 | .lmap es => ∃ es' res cl,unz es' = es ∧ w.heap[L.blk]? = some (.map res cl) ∧ MapRel G w es' res.toList
def alive:AO → Prop | .dead => False | _ => True
structure GOk (G:Gh) (w:World) (g:Nat) (cs:List AV):Prop where
 vr:VR G w (.cptr cs) (.pointer (some ⟨g,0,none⟩))
 K:G.K g cs.length
 fin:w.cell? ⟨g,cs.length,none⟩ = none
theorem GOk.ext {G G':Gh} {w w':World} {g:Nat} {cs:List AV} (h:GOk G w g cs) (he:Ext G w G' w'):GOk G' w' g cs:=⟨h.vr.ext he,he.K _ _ h.K,(he.cell _ _ h.K).trans h.fin⟩
structure Rel (C:Ctx) (G:Gh) (st:St) (w:World):Prop where
 obj:∀ l L,G.loc l = some L → l < st.next ∧ L.blk < w.heap.size ∧ G.base ≤ L.blk ∧ ObjRel C G w L (st.heap l)
 sep:∀ l1 l2 L1 L2,G.loc l1 = some L1 → G.loc l2 = some L2 → alive (st.heap l1) → alive (st.heap l2) → L1.blk = L2.blk → l1 = l2
 kold:∀ b o,G.K b o → b < w.heap.size
 glob:∀ g cs,C.glob g = some cs → GOk G w g cs
 low:G.base ≤ w.heap.size
def Touches (G:Gh) (ls:List Nat) (b:Nat):Prop:=∃ l L,l ∈ ls ∧ G.loc l = some L ∧ L.blk = b
structure Ok (C:Ctx) (G:Gh) (st:St) (w:World) (ls:List Nat) (G':Gh) (st':St) (w':World):Prop where
 ext:Ext G w G' w'
 rel:Rel C G' st' w'
 base:G'.base = G.base
 next:st.next ≤ st'.next
 size:w.heap.size ≤ w'.heap.size
 keep:∀ l,l < st.next → l ∉ ls → st'.heap l = st.heap l
 frame:∀ b,b < w.heap.size → ¬ Touches G ls b → w'.heap[b]? = w.heap[b]?
 newloc:∀ l L,G.loc l = none → G'.loc l = some L → st.next ≤ l ∧ (w.heap.size ≤ L.blk ∨ Touches G ls L.blk)
 newK:∀ b o,G'.K b o → G.K b o ∨ w.heap.size ≤ b ∨ Touches G ls b
 tape:w'.tape = w.tape
 os:w'.os = w.os
 output:w'.output = w.output
theorem Ok.refl {C:Ctx} {G:Gh} {st:St} {w:World} (h:Rel C G st w):Ok C G st w [] G st w :=
 ⟨Ext.refl _ _,h,rfl,Nat.le_refl _,Nat.le_refl _,fun _ _ _ => rfl,fun _ _ _ => rfl,fun l L h1 h2 => absurd (h1 ▸ h2) (by simp),fun _ _ h => .inl h,rfl,rfl,rfl⟩
theorem Touches.mono {G:Gh} {ls ls':List Nat} {b:Nat} (h:∀ l ∈ ls,l ∈ ls') (t:Touches G ls b):Touches G ls' b:=by
 obtain ⟨l,L,hl,r⟩:=t
 exact ⟨l,L,h l hl,r⟩
theorem Ok.mono {C:Ctx} {G G':Gh} {st st':St} {w w':World} {ls ls':List Nat} (h:Ok C G st w ls G' st' w') (hs:∀ l ∈ ls,l ∈ ls'):Ok C G st w ls' G' st' w' :=
 { h with
  keep:=fun l hl hn => h.keep l hl fun hm => hn (hs l hm)
  frame:=fun b hb hn => h.frame b hb fun t => hn (t.mono hs)
  newloc:=fun l L h1 h2 => ⟨(h.newloc l L h1 h2).1,(h.newloc l L h1 h2).2.imp id (·.mono hs)⟩
  newK:=fun b o hk => (h.newK b o hk).imp id (·.imp id (·.mono hs)) }
theorem Ok.touches {C:Ctx} {G G':Gh} {st st':St} {w w':World} {ls ls2:List Nat} (h:Ok C G st w ls G' st' w') {b:Nat} (t:Touches G' ls2 b) (hb:b < w.heap.size):Touches G (ls ++ ls2) b:=by
 obtain ⟨l,L,hl,hL,rfl⟩:=t
 cases hg:G.loc l with
 | some L0 =>
  have:=h.ext.loc l L0 hg
  rw [hL] at this
  cases this
  exact ⟨l,L,by simp [hl],hg,rfl⟩
 | none =>
  rcases (h.newloc l L hg hL).2 with h1 | h1
  ·omega
  ·exact h1.mono (by simp +contextual)
theorem Ok.trans {C:Ctx} {G G1 G2:Gh} {st st1 st2:St} {w w1 w2:World} {ls ls2:List Nat} (h:Ok C G st w ls G1 st1 w1) (k:Ok C G1 st1 w1 ls2 G2 st2 w2):Ok C G st w (ls ++ ls2) G2 st2 w2 where
 ext:=h.ext.trans k.ext
 rel:=k.rel
 base:=k.base.trans h.base
 next:=Nat.le_trans h.next k.next
 size:=Nat.le_trans h.size k.size
 keep:=fun l hl hn => by
  simp only [List.mem_append,not_or] at hn
  rw [k.keep l (Nat.lt_of_lt_of_le hl h.next) hn.2,h.keep l hl hn.1]
 frame:=fun b hb hn => by
  rw [k.frame b (Nat.lt_of_lt_of_le hb h.size) fun t => hn (h.touches t hb),h.frame b hb fun t => hn (t.mono (by simp +contextual))]
 newloc:=fun l L h1 h2 => by
  cases hg:G1.loc l with
  | some L0 =>
   have e:=k.ext.loc l L0 hg
   rw [h2] at e
   cases e
   exact ⟨(h.newloc l L h1 hg).1,(h.newloc l L h1 hg).2.imp id (·.mono (by simp +contextual))⟩
  | none =>
   obtain ⟨e1,e2⟩:=k.newloc l L hg h2
   refine ⟨Nat.le_trans h.next e1,?_⟩
   rcases e2 with e2 | e2
   ·exact .inl (Nat.le_trans h.size e2)
   ·by_cases hb:L.blk < w.heap.size
    ·exact .inr (h.touches e2 hb)
    ·exact .inl (by omega)
 newK:=fun b o hk => by
  rcases k.newK b o hk with h1 | h1 | h1
  ·rcases h.newK b o h1 with h2 | h2 | h2
   ·exact .inl h2
   ·exact .inr (.inl h2)
   ·exact .inr (.inr (h2.mono (by simp +contextual)))
  ·exact .inr (.inl (Nat.le_trans h.size h1))
  ·by_cases hb:b < w.heap.size
   ·exact .inr (.inr (h.touches h1 hb))
   ·exact .inr (.inl (by omega))
 tape:=k.tape.trans h.tape
 os:=k.os.trans h.os
 output:=k.output.trans h.output
theorem Ok.filter {C:Ctx} {G G':Gh} {st st':St} {w w':World} {ls:List Nat} (hr:Rel C G st w) (h:Ok C G st w ls G' st' w'):Ok C G st w (ls.filter (· < st.next)) G' st' w':=by
 have ht:∀ b,Touches G ls b → Touches G (ls.filter (· < st.next)) b:=fun b ⟨l,L,hl,hL,e⟩ => ⟨l,L,by simpa [hl] using (hr.obj l L hL).1,hL,e⟩
 exact { h with
  keep:=fun l hl hn => h.keep l hl fun hm => hn (by simpa [hm] using hl)
  frame:=fun b hb hn => h.frame b hb fun t => hn (ht b t)
  newloc:=fun l L h1 h2 => ⟨(h.newloc l L h1 h2).1,(h.newloc l L h1 h2).2.imp id (ht _)⟩
  newK:=fun b o hk => (h.newK b o hk).imp id (·.imp id (ht _)) }
theorem Rel.log {C:Ctx} {G:Gh} {st:St} {w:World} (h:Rel C G st w) (lg:List Nat):Rel C G ⟨st.heap,st.next,lg⟩ w:=⟨h.obj,h.sep,h.kold,h.glob,h.low⟩
theorem Ok.log {C:Ctx} {G G':Gh} {st st':St} {w w':World} {ls:List Nat} (h:Ok C G st w ls G' st' w') (lg lg':List Nat):Ok C G ⟨st.heap,st.next,lg⟩ w ls G' ⟨st'.heap,st'.next,lg'⟩ w' :=
 ⟨h.ext,h.rel.log lg',h.base,h.next,h.size,h.keep,h.frame,h.newloc,h.newK,h.tape,h.os,h.output⟩
end Go.AE

namespace Go.AE
open Go
theorem CellRel.ext {G G':Gh} {w w':World} (h:Ext G w G' w') {c:Array Value} {dl:Nat} {cells:List AV} (k:CellRel G w c dl cells):CellRel G' w' c dl cells:=fun i hi => by
 obtain ⟨v,h1,h2⟩:=k i hi
 exact ⟨v,h1,h2.ext h⟩
theorem EntRel.ext {G G':Gh} {w w':World} (h:Ext G w G' w'):∀ {es:List Ent} {ms:List MapEntry},EntRel G w es ms → EntRel G' w' es ms
 | [],[],_ => trivial
 | _ :: _,_ :: _,k => ⟨k.1.ext h,k.2.1.ext h,EntRel.ext h k.2.2⟩
theorem MapRel.ext {G G':Gh} {w w':World} (h:Ext G w G' w') {es:List Ent} {res:List MapEntry} (k:MapRel G w es res):MapRel G' w' es res:=by
 obtain ⟨es',h1,h2,h3⟩:=k
 exact ⟨es',h1,h2.ext h,h3⟩
theorem ObjRel.keep {C:Ctx} {G G':Gh} {w w':World} {L:Loc} {o:AO} (he:Ext G w G' w') (hb:w'.heap[L.blk]? = w.heap[L.blk]?) (hK:∀ o,G'.K L.blk o → G.K L.blk o) (h:ObjRel C G w L o):ObjRel C G' w' L o:=by
 cases o with
 | dead => trivial
 | mem e cells full fz =>
  obtain ⟨c,fr,h1,h2,h3,h4,h5,h6,h7,h8,h9⟩:=h
  exact ⟨c,fr,hb.trans h1,h2,h3,h4,h5.ext he,h6,h7,h8,fun o ho hk => h9 o ho (hK o hk)⟩
 | tok =>
  obtain ⟨c,e,fr,h1,h2,h3,h4,h5⟩:=h
  exact ⟨c,e,fr,hb.trans h1,h2,h3,h4,fun o ho hk => h5 o ho (hK o hk)⟩
 | amap es cl =>
  obtain ⟨res,h1,h2⟩:=h
  exact ⟨res,hb.trans h1,h2.ext he⟩
 | miter m since seen last =>
  cases m with
  | none => exact ⟨h.1,hb.trans h.2⟩
  | some m =>
   obtain ⟨h0,Lm,h1,h2⟩:=h
   exact ⟨h0,Lm,he.loc _ _ h1,hb.trans h2⟩
 | siter s pos =>
  obtain ⟨h0,bs,h1,h2⟩:=h
  exact ⟨h0,bs,hb.trans h1,h2⟩
 | loop f tmps n params assign body state pending d =>
  obtain ⟨rt,rd,Ld,h1,h2,h3,h5,h6⟩:=h
  exact ⟨rt,rd,Ld,hb.trans h1,h2,fun i => (h3 i).ext he,he.loc _ _ h5,h6⟩
 | dfr => exact hb.trans h
 | lmap es =>
  obtain ⟨es',res,cl,h0,h1,h2⟩:=h
  exact ⟨es',res,cl,h0,hb.trans h1,h2.ext he⟩
theorem Ok.intro {C:Ctx} {G G':Gh} {st st':St} {w w':World} {ls:List Nat} (hr:Rel C G st w) (hext:Ext G w G' w') (hbase:G'.base = G.base)
  (hnext:st.next ≤ st'.next) (hsize:w.heap.size ≤ w'.heap.size) (hkeep:∀ l,l < st.next → l ∉ ls → st'.heap l = st.heap l)
  (hframe:∀ b,b < w.heap.size → ¬ Touches G ls b → w'.heap[b]? = w.heap[b]?)
  (hnewloc:∀ l L,G.loc l = none → G'.loc l = some L → st.next ≤ l ∧ (w.heap.size ≤ L.blk ∨ Touches G ls L.blk))
  (hnewK:∀ b o,G'.K b o → G.K b o ∨ w.heap.size ≤ b ∨ Touches G ls b)
  (htape:w'.tape = w.tape) (hos:w'.os = w.os) (hout:w'.output = w.output)
  (hlive:∀ l,l ∈ ls → alive (st.heap l))
  (hobj:∀ l L,G'.loc l = some L → (l ∈ ls ∨ G.loc l = none) → l < st'.next ∧ L.blk < w'.heap.size ∧ G.base ≤ L.blk ∧ ObjRel C G' w' L (st'.heap l))
  (hsep:∀ l1 l2 L1 L2,G'.loc l1 = some L1 → G'.loc l2 = some L2 → alive (st'.heap l1) → alive (st'.heap l2) → (l1 ∈ ls ∨ G.loc l1 = none) → L1.blk = L2.blk → l1 = l2)
  (hkold:∀ b o,G'.K b o → b < w'.heap.size):Ok C G st w ls G' st' w' where
 ext:=hext
 rel:={
  obj:=fun l L hl => by
   by_cases h:l ∈ ls ∨ G.loc l = none
   ·have:=hobj l L hl h; rwa [← hbase] at this
   ·simp only [not_or] at h
    cases hg:G.loc l with
    | none => exact absurd hg h.2
    | some L0 =>
     have e:=hext.loc l L0 hg
     rw [hl] at e; cases e
     obtain ⟨a1,a2,a3,a4⟩:=hr.obj l L hg
     refine ⟨Nat.lt_of_lt_of_le a1 hnext,Nat.lt_of_lt_of_le a2 hsize,hbase ▸ a3,?_⟩
     rw [hkeep l a1 h.1]
     by_cases hal:alive (st.heap l)
     ·have hnt:¬ Touches G ls L.blk:=fun ⟨l0,L0,hm,hL0,hb⟩ => by
       have:=hr.sep l0 l L0 L hL0 hg (hlive l0 hm) hal hb
       exact h.1 (this ▸ hm)
      refine a4.keep hext (hframe _ a2 hnt) fun o hk => ?_
      rcases hnewK _ _ hk with h1 | h1 | h1
      ·exact h1
      ·omega
      ·exact absurd h1 hnt
     ·cases ho:st.heap l <;> simp [ho,alive] at hal
      trivial
  sep:=fun l1 l2 L1 L2 h1 h2 a1 a2 hb => by
   by_cases h:l1 ∈ ls ∨ G.loc l1 = none
   ·exact hsep l1 l2 L1 L2 h1 h2 a1 a2 h hb
   ·by_cases k:l2 ∈ ls ∨ G.loc l2 = none
    ·exact (hsep l2 l1 L2 L1 h2 h1 a2 a1 k hb.symm).symm
    ·simp only [not_or] at h k
     cases hg1:G.loc l1 with
     | none => exact absurd hg1 h.2
     | some M1 =>
      cases hg2:G.loc l2 with
      | none => exact absurd hg2 k.2
      | some M2 =>
       have e1:=hext.loc l1 M1 hg1
       have e2:=hext.loc l2 M2 hg2
       rw [h1] at e1; rw [h2] at e2; cases e1; cases e2
       rw [hkeep l1 (hr.obj l1 _ hg1).1 h.1] at a1
       rw [hkeep l2 (hr.obj l2 _ hg2).1 k.1] at a2
       exact hr.sep l1 l2 _ _ hg1 hg2 a1 a2 hb
  kold:=hkold
  glob:=fun g cs h => (hr.glob g cs h).ext hext
  low:=by rw [hbase]; exact Nat.le_trans hr.low hsize }
 base:=hbase
 next:=hnext
 size:=hsize
 keep:=hkeep
 frame:=hframe
 newloc:=hnewloc
 newK:=hnewK
 tape:=htape
 os:=hos
 output:=hout
theorem no_new {G:Gh} {l:Nat} {L:Loc} (h:G.loc l = some L) (h2:l ∈ ([]:List Nat) ∨ G.loc l = none):False:=by
 rcases h2 with h2 | h2
 ·cases h2
 ·rw [h2] at h; cases h
theorem Ok.same {C:Ctx} {G:Gh} {st:St} {w w':World} (hr:Rel C G st w) (hh:w'.heap = w.heap) (htape:w'.tape = w.tape) (hos:w'.os = w.os) (hout:w'.output = w.output):Ok C G st w [] G st w':=by
 have he:Ext G w G w':=⟨fun _ _ h => h,fun _ _ h => h,fun b o _ => by simp [World.cell?,hh]⟩
 exact Ok.intro hr he rfl (Nat.le_refl _) (by rw [hh]; exact Nat.le_refl _) (fun _ _ _ => rfl) (fun b _ _ => by rw [hh]) (fun l L h1 h2 => by rw [h2] at h1; cases h1) (fun _ _ h => .inl h) htape hos hout
  (fun _ h => by cases h) (fun l L h1 h2 => (no_new h1 h2).elim)
  (fun l1 l2 L1 L2 h1 _ _ _ h2 _ => (no_new h1 h2).elim) (fun b o h => by rw [hh]; exact hr.kold b o h)
theorem cell_push {w:World} {o:Obj} {b i:Nat} (h:b < w.heap.size):World.cell? { w with heap:=w.heap.push o } ⟨b,i,none⟩ = w.cell? ⟨b,i,none⟩:=by
 simp [World.cell?,Array.getElem?_push,Nat.ne_of_lt h]
theorem heap_push_old {h:Array Obj} {o:Obj} {b:Nat} (hb:b < h.size):(h.push o)[b]? = h[b]?:=by simp [Array.getElem?_push,Nat.ne_of_lt hb]
theorem heap_push_new {h:Array Obj} {o:Obj}:(h.push o)[h.size]? = some o:=by simp
def Gh.addLoc (G:Gh) (l:Nat) (L:Loc):Gh:={ G with loc:=upd G.loc l (some L) }
def Gh.addK (G:Gh) (Q:Nat → Nat → Prop):Gh:={ G with K:=fun b o => G.K b o ∨ Q b o }
theorem Ok.push {C:Ctx} {G:Gh} {st:St} {w:World} (hr:Rel C G st w) (ob:Obj) (o:AO) (L:Loc) (hL:L.blk = w.heap.size)
  (ho:Ext G w (G.addLoc st.next L) { w with heap:=w.heap.push ob } → ObjRel C (G.addLoc st.next L) { w with heap:=w.heap.push ob } L o) :
  Ok C G st w [] (G.addLoc st.next L) (st.push o) { w with heap:=w.heap.push ob }:=by
 have hfree:G.loc st.next = none:=by
  cases h:G.loc st.next with
  | none => rfl
  | some L0 => exact absurd (hr.obj _ _ h).1 (Nat.lt_irrefl _)
 have he:Ext G w (G.addLoc st.next L) { w with heap:=w.heap.push ob } :=
  ⟨fun l L0 h => by simp only [Gh.addLoc]; rw [upd_ne _ _ (fun e => by subst e; rw [hfree] at h; cases h)]; exact h,fun _ _ h => h,fun b o h => cell_push (hr.kold b o h)⟩
 have hnew:∀ l L',(G.addLoc st.next L).loc l = some L' → G.loc l = none → l = st.next ∧ L' = L:=fun l L' h1 h2 => by
  by_cases e:l = st.next
  ·subst e; simp [Gh.addLoc,upd_same] at h1; exact ⟨rfl,h1.symm⟩
  ·simp [Gh.addLoc,upd_ne _ _ e,h2] at h1
 refine Ok.intro hr he rfl (Nat.le_succ _) (by simp) (fun l hl _ => upd_ne _ _ (Nat.ne_of_lt hl)) (fun b hb' _ => heap_push_old hb') (fun l L' h1 h2 => ?_) (fun _ _ h => .inl h) rfl rfl rfl (fun _ h => by cases h)
  (fun l L' h1 h2 => ?_) (fun l1 l2 L1 L2 h1 h2 _ _ h3 hbe => ?_) (fun b o h => by have:=hr.kold b o h; simp; omega)
 ·obtain ⟨rfl,rfl⟩:=hnew l L' h2 h1
  exact ⟨Nat.le_refl _,.inl (Nat.le_of_eq hL.symm)⟩
 ·rcases h2 with h2 | h2
  ·cases h2
  ·obtain ⟨rfl,rfl⟩:=hnew l L' h1 h2
   have hb:=hr.low
   refine ⟨Nat.lt_succ_self _,by simp [hL],by omega,?_⟩
   simp only [St.push,upd_same]
   exact ho he
 ·rcases h3 with h3 | h3
  ·cases h3
  ·obtain ⟨rfl,rfl⟩:=hnew l1 L1 h1 h3
   by_cases e:l2 = st.next
   ·exact e.symm
   ·have:G.loc l2 = some L2:=by simpa [Gh.addLoc,upd_ne _ _ e] using h2
    have:=(hr.obj _ _ this).2.1
    omega
theorem Ok.konst {C:Ctx} {G:Gh} {st:St} {w:World} (hr:Rel C G st w) (ob:Obj) :
  Ok C G st w [] (G.addK fun b _ => b = w.heap.size) st { w with heap:=w.heap.push ob }:=by
 have he:Ext G w (G.addK fun b _ => b = w.heap.size) { w with heap:=w.heap.push ob }:=⟨fun _ _ h => h,fun _ _ h => .inl h,fun b o h => cell_push (hr.kold b o h)⟩
 exact Ok.intro hr he rfl (Nat.le_refl _) (by simp) (fun _ _ _ => rfl) (fun b hb' _ => heap_push_old hb') (fun l L h1 h2 => by rw [show G.loc l = some L from h2] at h1; cases h1) (fun b o h => by
   rcases h with h | h
   ·exact .inl h
   ·exact .inr (.inl (Nat.le_of_eq h.symm))) rfl rfl rfl
  (fun _ h => by cases h) (fun l L h1 h2 => (no_new (G:=G) h1 h2).elim)
  (fun l1 l2 L1 L2 h1 _ _ _ h2 _ => (no_new (G:=G) h1 h2).elim) (fun b o h => by
   rcases h with h | h
   ·have:=hr.kold b o h; simp; omega
   ·simp [h])
theorem Ok.write {C:Ctx} {G:Gh} {st:St} {w w':World} (hr:Rel C G st w) {l:Nat} {L:Loc} (hl:G.loc l = some L) (hal:alive (st.heap l)) (o:AO) (Q:Nat → Nat → Prop) (hQ:∀ b i,Q b i → b = L.blk)
  (hsz:w'.heap.size = w.heap.size) (hother:∀ b,b ≠ L.blk → w'.heap[b]? = w.heap[b]?) (hcell:∀ i,G.K L.blk i → w'.cell? ⟨L.blk,i,none⟩ = w.cell? ⟨L.blk,i,none⟩)
  (htape:w'.tape = w.tape) (hos:w'.os = w.os) (hout:w'.output = w.output)
  (ho:Ext G w (G.addK Q) w' → ObjRel C (G.addK Q) w' L o):Ok C G st w [l] (G.addK Q) (st.set l o) w':=by
 have hlt:=hr.obj l L hl
 have he:Ext G w (G.addK Q) w':=⟨fun _ _ h => h,fun _ _ h => .inl h,fun b i h => by
  by_cases e:b = L.blk
  ·subst e; exact hcell i h
  ·simp [World.cell?,hother b e]⟩
 have htouch:∀ b,b = L.blk → Touches G [l] b:=fun b e => ⟨l,L,by simp,hl,e.symm⟩
 refine Ok.intro hr he rfl (Nat.le_refl _) (Nat.le_of_eq hsz.symm) (fun l' _ hn => upd_ne _ _ (by simpa using hn)) (fun b _ hn => hother b fun e => hn (htouch b e)) (fun l' L' h1 h2 => by rw [show G.loc l' = some L' from h2] at h1; cases h1)
  (fun b i h => h.imp id fun h => .inr (htouch b (hQ b i h))) htape hos hout (fun l' h => by simp at h; subst h; exact hal) (fun l' L' h1 h2 => ?_) (fun l1 l2 L1 L2 h1 h2 _ a2 h3 hb => ?_) (fun b i h => ?_)
 ·have h1':G.loc l' = some L':=h1
  rcases h2 with h2 | h2
  ·simp at h2; subst h2
   rw [hl] at h1'; cases h1'
   refine ⟨hlt.1,by rw [hsz]; exact hlt.2.1,hlt.2.2.1,?_⟩
   simp only [St.set,upd_same]
   exact ho he
  ·rw [h2] at h1'; cases h1'
 ·have h1':G.loc l1 = some L1:=h1
  have h2':G.loc l2 = some L2:=h2
  rcases h3 with h3 | h3
  ·simp at h3; subst h3
   by_cases e:l2 = l1
   ·exact e.symm
   ·simp only [St.set,upd_ne _ _ e] at a2
    rw [hl] at h1'; cases h1'
    exact hr.sep l1 l2 _ _ hl h2' hal a2 hb
  ·rw [h3] at h1'; cases h1'
 ·rw [hsz]
  rcases h with h | h
  ·exact hr.kold b i h
  ·rw [hQ b i h]; exact hlt.2.1
end Go.AE

namespace Go.AE
open Go
theorem add_none (b o n:Nat):(⟨b,o,none⟩:Addr).add n = ⟨b,o + n,none⟩:=by unfold Addr.add; split <;> simp_all
def AtCells (w:World) (a:Addr) (vals:List Value):Prop:=∀ j v,vals[j]? = some v → w.cell? (a.add j) = some v
theorem AtCells.take {w:World} {a:Addr} {vals:List Value} (h:AtCells w a vals) (n:Nat):AtCells w a (vals.take n):=fun j v hj => h j v (by
 rw [List.getElem?_take] at hj
 split at hj
 ·exact hj
 ·cases hj)
theorem AtCells.drop {w:World} {b o:Nat} {vals:List Value} (h:AtCells w ⟨b,o,none⟩ vals) (n:Nat):AtCells w ⟨b,o + n,none⟩ (vals.drop n):=fun j v hj => by
 rw [List.getElem?_drop] at hj
 have:=h _ v hj
 rw [add_none] at this ⊢
 rwa [Nat.add_assoc]
section
variable {C:Ctx} {G:Gh} {w:World}
theorem vrs_range {xs:List AV} {vals:Nat → Value} (hv:∀ i,i < xs.length → VR G w (xs.getD i .any) (vals i)):VRs G w xs ((List.range xs.length).map vals) :=
 VRs.mk (by simp) fun i hi => by
  have:=hv i hi
  simpa [List.getD_eq_getElem?_getD,hi] using this
theorem Konst.at {a:Addr} {n:Nat} {vals:Nat → Value} (h:Konst G w (some a) n vals):AtCells w a ((List.range n).map vals):=fun j v hj => by
 have hjn:j < n:=by
  rcases Nat.lt_or_ge j n with h' | h'
  ·exact h'
  ·rw [List.getElem?_eq_none (by simpa using h')] at hj; cases hj
 obtain ⟨b,o,e,_,hc⟩:=h j hjn
 simp [hjn] at hj
 cases e
 rw [add_none,hc,hj]
theorem CellRel.vals {c:Array Value} {dl:Nat} {cells:List AV} (h:CellRel G w c dl cells):∃ vals:List Value,VRs G w cells vals ∧ ∀ j v,vals[j]? = some v → c[dl + j]? = some v:=by
 refine ⟨(List.range cells.length).map fun i => c.getD (dl + i) undef,vrs_range fun i hi => ?_,fun j v hj => ?_⟩
 ·obtain ⟨v,h1,h2⟩:=h i hi
  simpa [Array.getD_eq_getD_getElem?,h1] using h2
 ·have hjn:j < cells.length:=by
   rcases Nat.lt_or_ge j cells.length with h' | h'
   ·exact h'
   ·rw [List.getElem?_eq_none (by simpa using h')] at hj; cases hj
  obtain ⟨u,h1,_⟩:=h j hjn
  simp [hjn,Array.getD_eq_getD_getElem?,h1] at hj
  rw [h1,hj]
theorem mem_at {L:Loc} {e:TypeId} {cells:List AV} {full:Bool} {fz:Nat} (h:ObjRel C G w L (.mem e cells full fz)) :
  ∃ vals,VRs G w cells vals ∧ AtCells w ⟨L.blk,L.dl,none⟩ vals:=by
 obtain ⟨c,fr,h1,_,_,_,h5,_⟩:=h
 obtain ⟨vals,hv,hc⟩:=h5.vals
 refine ⟨vals,hv,fun j v hj => ?_⟩
 rw [add_none]
 simp only [World.cell?,h1]
 exact hc j v hj
variable (hC:CtxOk C)
include hC
theorem run_und {t:TypeId} {ti:TI} (h:C.ty t = some ti):(underlying t).run C.P w = .ok ti.und w:=by
 simp [underlying,hC.und t ti h]
theorem run_isAgg {t:TypeId} {ti:TI} (h:C.ty t = some ti):(isAgg t).run C.P w = .ok ti.isAgg w:=by
 rw [hC.agg t ti h]
 simp only [isAgg,Sem.run_bind,run_und hC h,Result.andThen_ok]
 split <;> simp_all
theorem run_size {t:TypeId} {ti:TI} (h:C.ty t = some ti):(sizeOf t).run C.P w = .ok ti.size w:=by
 obtain ⟨i,h1,h2,_⟩:=hC.info t ti h
 simp [sizeOf,typeInfo,h1,h2]
theorem part_sound {t:TypeId} {ti:TI} (ht:C.ty t = some ti) {cells:List AV} {vals:List Value} {a:Addr} (hv:VRs G w cells vals) (ha:AtCells w a vals) {v:AV} (h:ti.part cells = some v) :
  ∃ u,(loadVar t a).run C.P w = .ok u w ∧ VR G w v u:=by
 unfold TI.part at h
 simp only [loadVar,Sem.run_bind,run_isAgg hC ht,Result.andThen_ok]
 by_cases hagg:ti.isAgg = true
 ·rw [if_pos hagg] at h
  split at h
  ·rename_i hlen
   cases h
   have hvl:(vals.take ti.size).length = ti.size:=by have:=(VRs.take ti.size hv).length; rw [hlen] at this; exact this.symm
   have hr:=run_loadCells_list (P:=C.P) w a (vals.take ti.size) (ha.take ti.size)
   rw [hvl] at hr
   rw [if_pos hagg]
   simp only [Sem.run_bind,run_size hC ht,Result.andThen_ok,hr,Sem.run_pure]
   exact ⟨_,rfl,VR.mkAgg (by simpa using VRs.take ti.size hv)⟩
  ·cases h
 ·rw [if_neg hagg] at h
  obtain ⟨u,hu,hr⟩:=VRs.head hv h
  have hc:=ha 0 u (by simpa [List.head?_eq_getElem?] using hu)
  simp only [Addr.add,if_true] at hc
  rw [if_neg hagg,run_load,hc]
  exact ⟨u,rfl,hr⟩
theorem ld_sound {st:St} (hr:Rel C G st w) {t:TypeId} {a v:AV} {va:Value} (ha:VR G w a va) (h:ld C st t a = some v) :
  ∃ u,(Instr.loadAt t va).run C.P w = .ok u w ∧ VR G w v u:=by
 unfold ld at h
 cases ht:C.ty t with
 | none => simp [ht] at h
 | some ti =>
  simp only [ht] at h
  cases ha with
  | ptr l off L hl =>
   simp only at h
   split at h
   ·rename_i e cells full fz ho
    have hob:=(hr.obj l L hl).2.2.2
    rw [ho] at hob
    obtain ⟨vals,h1,h2⟩:=mem_at hob
    simpa [Instr.loadAt,Instr.sureAddr] using part_sound hC ht (VRs.drop off h1) (h2.drop off) h
   ·cases h
  | cptr cells a vals hc hv => simpa [Instr.loadAt,Instr.sureAddr] using part_sound hC ht (vrs_range hv) hc.at h
  | _ => simp at h
end
theorem isCell_one {G:Gh} {w:World} {x:AV} {v:Value} (h:VR G w x v) (hx:x.isCell = true):v.oneCell' = true:=by
 cases h <;> simp_all [AV.isCell,Value.oneCell']
theorem isCell_all {G:Gh} {w:World}:∀ {xs:List AV} {vs:List Value},VRs G w xs vs → xs.all AV.isCell = true → ∀ v ∈ vs,v.oneCell' = true
 | [],[],_,_,v,h => by cases h
 | x :: xs,u :: vs,h,k,v,hv => by
  simp only [List.all_cons,Bool.and_eq_true] at k
  rcases List.mem_cons.1 hv with e | e
  ·rw [e]; exact isCell_one h.1 k.1
  ·exact isCell_all h.2 k.2 v e
theorem splice_length {off:Nat} {new cells:List AV} (h:off + new.length ≤ cells.length):(splice off new cells).length = cells.length:=by
 simp [splice]; omega
theorem splice_get {off:Nat} {new cells:List AV} (h:off + new.length ≤ cells.length) (i:Nat) :
  (splice off new cells).getD i .any = if off ≤ i ∧ i < off + new.length then new.getD (i - off) .any else cells.getD i .any:=by
 simp only [splice,List.getD_eq_getElem?_getD]
 rw [List.append_assoc,List.getElem?_append]
 have hto:(cells.take off).length = off:=by simp; omega
 rw [hto]
 by_cases h1:i < off
 ·rw [if_pos h1,if_neg (by omega),List.getElem?_take,if_pos h1]
 ·rw [if_neg h1,List.getElem?_append]
  by_cases h2:i - off < new.length
  ·rw [if_pos h2,if_pos (by omega)]
  ·rw [if_neg h2,if_neg (by omega),List.getElem?_drop]
   congr 2
   omega
theorem row_get {c:Array Value} {o:Nat} {vs:List Value} (h:o + vs.length ≤ c.size) (i:Nat) :
  ((c.toList.take o ++ vs ++ c.toList.drop (o + vs.length)).toArray)[i]? = if o ≤ i ∧ i < o + vs.length then vs[i - o]? else c[i]?:=by
 rw [List.getElem?_toArray,List.append_assoc,List.getElem?_append]
 have hto:(c.toList.take o).length = o:=by simp; omega
 rw [hto]
 by_cases h1:i < o
 ·rw [if_pos h1,if_neg (by omega),List.getElem?_take,if_pos h1]; simp
 ·rw [if_neg h1,List.getElem?_append]
  by_cases h2:i - o < vs.length
  ·rw [if_pos h2,if_pos (by omega)]
  ·rw [if_neg h2,if_neg (by omega),List.getElem?_drop]
   simp only [Array.getElem?_toList]
   congr 1
   omega
theorem row_size {c:Array Value} {o:Nat} {vs:List Value} (h:o + vs.length ≤ c.size):((c.toList.take o ++ vs ++ c.toList.drop (o + vs.length)).toArray).size = c.size:=by
 simp; omega
theorem Gh.addK_none (G:Gh):G.addK (fun _ _ => False) = G:=by
 cases G; simp [Gh.addK]
theorem sto_sound {C:Ctx} {G:Gh} {w:World} {st st':St} (hr:Rel C G st w) {l off:Nat} {L:Loc} (hl:G.loc l = some L) {new:List AV} {vs:List Value} (hv:VRs G w new vs)
  (h:sto st l off new = some st'):∃ w' ls,(storeCells ⟨L.blk,L.dl + off,none⟩ vs).run C.P w = .ok () w' ∧ Ok C G st w ls G st' w' ∧ st'.log = ls ++ st.log:=by
 cases new with
 | nil =>
  cases vs with
  | nil => simp [sto] at h; subst h; exact ⟨w,[],rfl,Ok.refl hr,rfl⟩
  | cons _ _ => exact hv.elim
 | cons x xs =>
  simp only [sto] at h
  split at h
  ·rename_i e cells full fz ho
   split at h
   ·rename_i hcond
    obtain ⟨hlen,hfz,hcell⟩:=hcond
    cases h
    have hob:=(hr.obj l L hl).2.2.2
    rw [ho] at hob
    obtain ⟨c,fr,h1,h2,h3,h4,h5,h6,h7,h8,h9⟩:=hob
    have hvl:=hv.length
    have hfit:L.dl + off + vs.length ≤ c.size:=by omega
    have hst:=run_storeCells_atF C.P L.blk (L.dl + off) e fr vs 0 c w h1 (by unfold unfrozenFrom at h6; omega) (by simpa using hfit) (isCell_all hv hcell)
    simp only [Nat.add_zero] at hst
    refine ⟨_,[l],hst,?_,rfl⟩
    have hrow:=World.setRow
    have hblk:=(hr.obj l L hl).2.1
    have hh:(w.setRow L.blk (c.toList.take (L.dl + off) ++ vs ++ c.toList.drop (L.dl + off + vs.length)).toArray).heap[L.blk]? = some (.cells (c.toList.take (L.dl + off) ++ vs ++ c.toList.drop (L.dl + off + vs.length)).toArray e fr):=by
     simp [World.setRow,Array.getElem?_modify,h1]
    have hk:=Ok.write (C:=C) (w':=w.setRow L.blk (c.toList.take (L.dl + off) ++ vs ++ c.toList.drop (L.dl + off + vs.length)).toArray) hr hl (by rw [ho]; trivial) (.mem e (splice off (x :: xs) cells) full fz) (fun _ _ => False) (fun _ _ h => h.elim)
     (by simp [World.setRow]) (fun b hb => by simp [World.setRow,Array.getElem?_modify,Ne.symm hb]) (fun i hi => by
      have hi':i < L.dl:=by
       rcases Nat.lt_or_ge i L.dl with h' | h'
       ·exact h'
       ·exact absurd hi (h9 i h')
      simp only [World.cell?,hh,h1,Option.isSome_none,Bool.false_eq_true,if_false]
      rw [row_get hfit,if_neg (by omega)]) rfl rfl rfl (fun he => by
      refine ⟨_,fr,hh,by rw [row_size hfit]; exact h2,by rw [splice_length hlen]; exact h3,fun hf => by rw [splice_length hlen]; exact h4 hf,fun i hi => ?_,h6,h7,by rw [splice_length hlen]; exact h8,fun o ho hk => by
       rcases hk with hk | hk
       ·exact h9 o ho hk
       ·exact hk⟩
      rw [splice_length hlen] at hi
      have eA:=splice_get hlen i
      have eB:=row_get hfit (L.dl + i)
      by_cases hin:off ≤ i ∧ i < off + (x :: xs).length
      ·rw [if_pos hin] at eA
       rw [if_pos (by omega)] at eB
       have hg:=hv.get (i - off) (by omega)
       have hlt:i - off < vs.length:=by omega
       rw [show L.dl + i - (L.dl + off) = i - off by omega,List.getElem?_eq_getElem hlt] at eB
       refine ⟨vs[i - off],eB,?_⟩
       rw [List.getD_eq_getElem?_getD (l:=vs),List.getElem?_eq_getElem hlt] at hg
       rw [eA]
       exact hg.ext he
      ·rw [if_neg hin] at eA
       rw [if_neg (by omega)] at eB
       obtain ⟨v,e1,e2⟩:=h5 i hi
       exact ⟨v,eB.trans e1,by rw [eA]; exact e2.ext he⟩)
    rwa [Gh.addK_none] at hk
   ·cases h
  ·cases h
theorem ofCell_sound (G:Gh) (w:World) (v:Value):VR G w (ofCell v) v:=by
 unfold ofCell
 split
 ·exact .bool _
 ·exact .int _ _
 ·exact .str _
 ·exact .nilp
 ·exact .slice .nil [] none 0 (fun _ => undef) ⟨rfl,rfl,rfl⟩ (fun i hi => by simp [flat] at hi) (fun i hi => by simp [flat] at hi) ⟨0,rfl⟩
 ·exact .nilmap
 ·exact .nilfn
 ·exact .nilif
 ·exact .func _ [] [] #[] #[] rfl rfl (fun i hi => by simp at hi) (fun i hi => by simp at hi)
 ·exact .any _
theorem ofV_sound (G:Gh) (w:World) (v:Value):VR G w (ofV v) v:=by
 unfold ofV
 split
 ·rename_i cs
  refine VR.mkAgg ?_
  have:=VRs.map (G:=G) (w:=w) (f:=ofCell) (g:=fun x => x) (l:=cs.toList) (fun x _ => ofCell_sound G w x)
  simpa using this
 ·exact VR.undef
 ·exact ofCell_sound G w _
structure FrRel (G:Gh) (w:World) (fr:Fr) (tmps:Array Value):Prop where
 size:tmps.size = fr.n
 val:∀ i,VR G w (fr.tmps i) (tmps.getD i undef)
theorem FrRel.ext {G G':Gh} {w w':World} (h:Ext G w G' w') {fr:Fr} {tmps:Array Value} (k:FrRel G w fr tmps):FrRel G' w' fr tmps:=⟨k.size,fun i => (k.val i).ext h⟩
theorem oval_sound {C:Ctx} {G:Gh} {w:World} {st:St} (hr:Rel C G st w) {fr:Fr} {a:Act} (hf:FrRel G w fr a.tmps) (x:Operand):VR G w (oval C fr x) (a.eval x):=by
 cases x with
 | tmp t => exact hf.val t
 | const v => exact ofV_sound G w v
 | global g =>
  simp only [oval,Act.eval]
  cases h:C.glob g with
  | none => exact .any _
  | some cs => exact (hr.glob g cs h).vr
 | func f => exact .func _ [] [] #[] #[] rfl rfl (fun i hi => by simp at hi) (fun i hi => by simp at hi)
theorem ovals_sound {C:Ctx} {G:Gh} {w:World} {st:St} (hr:Rel C G st w) {fr:Fr} {a:Act} (hf:FrRel G w fr a.tmps) (xs:List Operand):VRs G w (xs.map (oval C fr)) (xs.map a.eval) :=
 VRs.map fun x _ => oval_sound hr hf x
theorem FrRel.put {G:Gh} {w:World} {fr:Fr} {a:Act} (h:FrRel G w fr a.tmps) {v:AV} {u:Value} (hv:VR G w v u) (d:Option Tmp):FrRel G w (fr.put d v) (a.put d u).tmps:=by
 cases d with
 | none => exact h
 | some d =>
  simp only [Fr.put,Act.put]
  have hs:=h.size
  split
  ·rename_i hd
   refine ⟨by simpa using hs,fun i => ?_⟩
   by_cases e:i = d
   ·subst e
    simp only [upd_same]
    simpa [Array.getD_eq_getD_getElem?,Array.getElem?_setIfInBounds,hs,hd] using hv
   ·simp only [upd_ne _ _ e]
    have:=h.val i
    simpa [Array.getD_eq_getD_getElem?,Array.getElem?_setIfInBounds,Ne.symm e] using this
  ·rename_i hd
   have:a.tmps.setIfInBounds d u = a.tmps:=by
    have hle:a.tmps.toList.length ≤ d:=by rw [Array.length_toList,hs]; exact Nat.le_of_not_lt hd
    apply Array.ext'
    rw [Array.toList_setIfInBounds,List.set_eq_of_length_le hle]
   rw [this]
   exact h
end Go.AE

namespace Go.AE
open Go
theorem u8_beq (a b:UInt8):(a == b) = (a.toNat == b.toNat):=by
 rw [Bool.eq_iff_iff]; simp [UInt8.toNat_inj]
theorem u8s_beq:∀ (x y:List UInt8),(x == y) = (x.map (·.toNat) == y.map (·.toNat))
 | [],[] => rfl
 | [],_ :: _ => rfl
 | _ :: _,[] => rfl
 | a :: x,b :: y => by rw [List.map_cons,List.map_cons,List.cons_beq_cons,List.cons_beq_cons,u8_beq a b,u8s_beq x y]
theorem strLt_eq:∀ (x y:List UInt8),Op.bytesLess x y = strLt (x.map (·.toNat)) (y.map (·.toNat))
 | [],[] => rfl
 | [],_ :: _ => rfl
 | _ :: _,[] => rfl
 | a :: x,b :: y => by
  rw [Op.bytesLess,List.map_cons,List.map_cons,strLt,strLt_eq x y,u8_beq a b]
  rfl
theorem data_append' (a b:ByteArray):(a ++ b).data.toList = a.data.toList ++ b.data.toList:=by simp
theorem str_mk (G:Gh) (w:World) (s:ByteArray) (l:List Nat) (h:s.data.toList.map (·.toNat) = l):VR G w (.str l) (.string s):=h ▸ .str s
theorem toList_map (s:ByteArray):s.toList.map (·.toNat) = s.data.toList.map (·.toNat):=by rw [Lib.toList_data]
theorem size_map (s:ByteArray):(s.data.toList.map (·.toNat)).length = s.size:=by rw [List.length_map,Array.length_toList]; rfl
section
variable {C:Ctx} {G:Gh} {w:World}
theorem binOp_int_same {op:BinOp} {k:IntKind} {a b:Int} {t:TypeId} (h1:op ≠ .shl) (h2:op ≠ .shr):binOp op t (.int k a) (.int k b) =
  (match op with | .add | .sub | .mul => Op.intArith op k a b | .quo | .rem => Op.intDiv op k a b | .and | .or | .xor | .andNot => Op.intBits op k a b | _ => Op.intCmp op a b):=by
 cases op <;> first
  | exact absurd rfl h1
  | exact absurd rfl h2
  | (show (if k ≠ k then _ else _) = _; rw [if_neg (fun h => h rfl)])
theorem intOp_sound {op:BinOp} {k:IntKind} {a b:Int} {t:TypeId} {v:AV} (h:intOp op k a b = some v):∃ r,(binOp op t (.int k a) (.int k b)).run C.P w = .ok r w ∧ VR G w v r:=by
 by_cases h1:op = .shl
 ·subst h1; cases h
 by_cases h2:op = .shr
 ·subst h2; cases h
 rw [binOp_int_same h1 h2]
 cases op <;> simp only [intOp] at h <;> first
  | (cases h; first | exact ⟨_,rfl,.int _ _⟩ | exact ⟨_,rfl,.bool _⟩)
  | (split at h
     ·cases h
     ·cases h; rename_i hb; simp only [Op.intDiv,hb,if_false]; exact ⟨_,rfl,.int _ _⟩)
  | cases h
theorem shiftOp_sound {op:BinOp} {k k':IntKind} {a b:Int} {t:TypeId} {v:AV} (h:shiftOp op k a b = some v):∃ r,(binOp op t (.int k a) (.int k' b)).run C.P w = .ok r w ∧ VR G w v r:=by
 have es:op = .shl ∨ op = .shr → binOp op t (.int k a) (.int k' b) = Op.shift op k a k' b:=fun h => by rcases h with rfl | rfl <;> rfl
 unfold shiftOp at h
 split at h
 ·cases h
 ·rename_i hb
  cases op <;> simp only at h <;> first
   | (simp at h; done)
   | (cases h; rw [es (by simp)]; refine ⟨_,?_,.int _ _⟩; simp only [Op.shift,hb,if_false]; rfl)
theorem strOp_add {x y:ByteArray} {v:AV} {t:TypeId} (h:strOp .add (x.data.toList.map (·.toNat)) (y.data.toList.map (·.toNat)) = some v) :
  ∃ r,(binOp .add t (.string x) (.string y)).run C.P w = .ok r w ∧ VR G w v r:=by
 simp only [strOp] at h
 split at h
 ·rename_i hl
  rw [size_map,size_map] at hl
  cases h
  have hmax:¬ (((x.size + y.size:Nat):Int) > IntKind.i64.max):=by
   have:IntKind.i64.max = 9223372036854775807:=by decide
   omega
  refine ⟨.string (x ++ y),?_,str_mk _ _ _ _ (by rw [data_append',List.map_append])⟩
  show (Op.stringOp .add x y).run C.P w = _
  simp only [Op.stringOp]
  rw [if_neg hmax]
  rfl
 ·cases h
theorem strOp_sound {op:BinOp} {x y:ByteArray} {t:TypeId} {v:AV} (h:strOp op (x.data.toList.map (·.toNat)) (y.data.toList.map (·.toNat)) = some v) :
  ∃ r,(binOp op t (.string x) (.string y)).run C.P w = .ok r w ∧ VR G w v r:=by
 have e1:(x.toList == y.toList) = (x.data.toList.map (·.toNat) == y.data.toList.map (·.toNat)):=by rw [u8s_beq,toList_map,toList_map]
 have e2:Op.bytesLess x.toList y.toList = strLt (x.data.toList.map (·.toNat)) (y.data.toList.map (·.toNat)):=by rw [strLt_eq,toList_map,toList_map]
 have es:binOp op t (.string x) (.string y) = Op.stringOp op x y:=by cases op <;> rfl
 cases op <;> first
  | exact strOp_add h
  | (simp [strOp] at h; done)
  | (simp only [strOp] at h; cases h; rw [es]; refine ⟨_,?_,.bool _⟩; simp only [Op.stringOp,e1,e2]; rfl)
theorem eqGuard_quiet {op:BinOp} {t:TypeId} {x y:Operand} {a b:Value} (h1:∀ xs ys,¬ (a = .agg xs ∧ b = .agg ys)) (h2:¬ (a = .nilIface ∧ b = .nilIface)):(eqGuard op t x y a b).run C.P w = .ok () w:=by
 cases op <;> first
  | rfl
  | (cases a <;> cases b <;> first | rfl | exact absurd ⟨rfl,rfl⟩ h2 | exact absurd ⟨rfl,rfl⟩ (h1 _ _))
theorem cellEq_sound (hC:CtxOk C) {t:TypeId} {x y:AV} {u v:Value} (hx:VR G w x u) (hy:VR G w y v) {b:Bool} (h:cellEq C t x y = some b) (d:Nat) :
  (Op.equalIn (d + 1) t u v).run C.P w = .ok b w ∧ (∀ k,C.P.underlying t = some k → Instr.sameNow k u v = some b) ∧ plainCell C t = true ∧ (b = true → ∀ n,Instr.sameBits (n + 1) u v = true):=by
 unfold cellEq at h
 cases ht:C.ty t with
 | none => simp [ht] at h
 | some ti =>
  have hu:=hC.und t ti ht
  simp only [ht] at h
  split at h
  ·rename_i k j a j' b' hund
   cases hx; cases hy
   split at h
   ·rename_i hj
    subst hj
    cases h
    rw [hund] at hu
    refine ⟨by rw [run_equalIn_int w d t j k a b' hu],fun k' hk' => ?_,by simp [plainCell,ht,hund],fun hb n => ?_⟩
    ·rw [hu] at hk'; cases hk'; simp [Instr.sameNow]
    ·simp only [Instr.sameBits,BEq.rfl,Bool.true_and]; exact hb
   ·cases h
  ·rename_i a b' hund
   cases hx; cases hy; cases h
   rw [hund] at hu
   refine ⟨by rw [run_equalIn_bool' w d t a b' hu],fun k' hk' => ?_,by simp [plainCell,ht,hund],fun hb n => ?_⟩
   ·rw [hu] at hk'; cases hk'; simp [Instr.sameNow]
   ·simp only [Instr.sameBits]; exact hb
  ·rename_i a b' hund
   rw [hund] at hu
   cases hx; cases hy; cases h
   rename_i sa sb
   have e1:(sa.toList == sb.toList) = (sa.data.toList.map (·.toNat) == sb.data.toList.map (·.toNat)):=by rw [u8s_beq,toList_map,toList_map]
   have e2:(sa == sb) = (sa.data.toList.map (·.toNat) == sb.data.toList.map (·.toNat)):=by rw [beq_toListBytes,e1]
   refine ⟨by rw [run_equalIn_string w d t sa sb hu,e1],fun k' hk' => ?_,by simp [plainCell,ht,hund],fun hb n => ?_⟩
   ·rw [hu] at hk'; cases hk'; simp only [Instr.sameNow,e2]
   ·simp only [Instr.sameBits,e2]; exact hb
  ·cases h
end
end Go.AE

namespace Go.AE
open Go
section
variable {C:Ctx} {G:Gh} {w:World}
theorem plainCell_und {t:TypeId} (h:plainCell C t = true):∃ ti,C.ty t = some ti ∧ ((∃ k,ti.und = .int k) ∨ ti.und = .bool ∨ ti.und = .string):=by
 unfold plainCell at h
 cases ht:C.ty t with
 | none => simp [ht] at h
 | some ti =>
  refine ⟨ti,rfl,?_⟩
  simp only [ht] at h
  split at h <;> simp_all
theorem plainCell_noAgg (hC:CtxOk C) {t:TypeId} (h:plainCell C t = true):(isAgg t).run C.P w = .ok false w:=by
 obtain ⟨ti,ht,hu⟩:=plainCell_und h
 rw [run_isAgg hC ht,hC.agg t ti ht]
 rcases hu with ⟨k,hu⟩ | hu | hu <;> rw [hu]
theorem part_plain (hC:CtxOk C) {t:TypeId} (h:plainCell C t = true) {xs:Array Value} {off:Nat} {u:Value} (hu:xs[off]? = some u):(part t xs off).run C.P w = .ok u w:=by
 simp only [part,Sem.run_bind,plainCell_noAgg hC h,Result.andThen_ok,Bool.false_eq_true,if_false,hu]
 rfl
theorem VRs.drop_cons {a:AV} {as:List AV} {xs:List Value} {off:Nat} (h:VRs G w (a :: as) (xs.drop off)):∃ u,xs[off]? = some u ∧ VR G w a u ∧ VRs G w as (xs.drop (off + 1)):=by
 cases hd:xs.drop off with
 | nil => rw [hd] at h; exact h.elim
 | cons u r =>
  rw [hd] at h
  refine ⟨u,?_,h.1,?_⟩
  ·have:=congrArg List.head? hd
   rwa [List.head?_drop,List.head?_cons] at this
  ·have:=congrArg List.tail hd
   rw [List.tail_drop,List.tail_cons] at this
   rw [this]
   exact h.2
theorem cellsEq_sound (hC:CtxOk C) (d:Nat):∀ (fs:List Field) (off:Nat) (as bs:List AV) (xs ys:Array Value) (b:Bool),plainStruct C fs off = true → cellsEq C fs as bs = some b →
  VRs G w as (xs.toList.drop off) → VRs G w bs (ys.toList.drop off) → (Op.eqFields (d + 1) xs ys fs).run C.P w = .ok b w
 | [],_,as,bs,_,_,b,_,h,_,_ => by
  cases as <;> cases bs <;> simp [cellsEq] at h
  subst h
  rfl
 | f :: fs,off,as,bs,xs,ys,b,hp,h,ha,hb => by
  cases as with
  | nil => simp [cellsEq] at h
  | cons a as =>
   cases bs with
   | nil => simp [cellsEq] at h
   | cons b' bs =>
    simp only [plainStruct,Bool.and_eq_true,beq_iff_eq,bne_iff_ne,ne_eq] at hp
    obtain ⟨⟨⟨h1,h2⟩,h3⟩,h4⟩:=hp
    obtain ⟨u,eu,vu,ru⟩:=ha.drop_cons
    obtain ⟨v,ev,vv,rv⟩:=hb.drop_cons
    simp only [Array.getElem?_toList] at eu ev
    simp only [Op.eqFields,ne_eq,h2,not_false_eq_true,if_true,Sem.run_bind,h1,part_plain hC h3 eu,part_plain hC h3 ev,Result.andThen_ok]
    simp only [cellsEq] at h
    cases hc:cellEq C f.type a b' with
    | none => simp [hc] at h
    | some r =>
     rw [(cellEq_sound hC vu vv hc d).1]
     simp only [Result.andThen_ok]
     cases r with
     | true =>
      simp only [hc] at h
      simpa using cellsEq_sound hC d fs (off + 1) as bs xs ys b h4 h ru rv
     | false =>
      simp only [hc] at h
      cases h
      simp
theorem cellsEq_bits (hC:CtxOk C):∀ (fs:List Field) (as bs:List AV) (xs ys:List Value),cellsEq C fs as bs = some true → VRs G w as xs → VRs G w bs ys →
  xs.length = ys.length ∧ ∀ n,((xs.zip ys).all fun (x,y) => Instr.sameBits (n + 1) x y) = true
 | [],as,bs,xs,ys,h,ha,hb => by
  cases as <;> cases bs <;> simp [cellsEq] at h
  cases xs <;> cases ys <;> first | exact ha.elim | exact hb.elim | exact ⟨rfl,fun n => rfl⟩
 | f :: fs,as,bs,xs,ys,h,ha,hb => by
  cases as with
  | nil => simp [cellsEq] at h
  | cons a as =>
   cases bs with
   | nil => simp [cellsEq] at h
   | cons b bs =>
    cases xs with
    | nil => exact ha.elim
    | cons x xs =>
     cases ys with
     | nil => exact hb.elim
     | cons y ys =>
      simp only [cellsEq] at h
      cases hc:cellEq C f.type a b with
      | none => simp [hc] at h
      | some r =>
       cases r with
       | false => simp [hc] at h
       | true =>
        simp only [hc] at h
        obtain ⟨e1,e2⟩:=cellsEq_bits hC fs as bs xs ys h ha.2 hb.2
        refine ⟨by simp [e1],fun n => ?_⟩
        simp only [List.zip_cons_cons,List.all_cons,Bool.and_eq_true]
        exact ⟨(cellEq_sound hC ha.1 hb.1 hc 0).2.2.2 rfl n,e2 n⟩
theorem struct_und (hC:CtxOk C) {t:TypeId} {ti:TI} {fs:Array Field} (ht:C.ty t = some ti) (hu:ti.und = .struct fs):C.P.underlying t = some (.struct (C.P.fieldsOf t)) ∧ C.P.fieldsOf t = fs:=by
 have:=hC.und t ti ht
 rw [hu] at this
 have e:C.P.fieldsOf t = fs:=by simp [Program.fieldsOf,this]
 exact ⟨by rw [e]; exact this,e⟩
theorem keyEq_sound (hC:CtxOk C) {t:TypeId} {x y:AV} {u v:Value} (hx:VR G w x u) (hy:VR G w y v) {b:Bool} (h:keyEq C t x y = some b) (d:Nat) :
  (Op.equalIn (d + 2) t u v).run C.P w = .ok b w ∧ (b = true → ∀ n,Instr.sameBits (n + 2) u v = true) ∧
   ((plainCell C t = true ∧ ∀ k,C.P.underlying t = some k → Instr.sameNow k u v = some b) ∨ ∃ fs,C.P.underlying t = some (.struct fs) ∧ plainStruct C fs.toList 0 = true ∧ ∃ a cs,x = .agg a ∧ u = .agg cs ∧ a.length = fs.size):=by
 unfold keyEq at h
 split at h
 ·rename_i a a'
  cases ht:C.ty t with
  | none => simp [ht] at h
  | some ti =>
   simp only [ht] at h
   split at h
   ·rename_i fs s1 s2 s3 s4 s5 heq
    have hu:ti.und = .struct fs:=by cases heq; rfl
    split at h
    ·rename_i hcond
     obtain ⟨hp,hlen,hst⟩:=hcond
     obtain ⟨hst1,hst2⟩:=struct_und hC ht hu
     cases hx with
     | agg _ xs l1 r1 =>
      cases hy with
      | agg _ ys l2 r2 =>
       have A:=VRs.of_array l1 r1
       have B:=VRs.of_array l2 r2
       refine ⟨?_,fun hb n => ?_,.inr ⟨fs,hst2 ▸ hst1,hp,a,xs,rfl,rfl,?_⟩⟩
       ·rw [run_equalIn_agg w (d + 1) t xs ys hst1 hst,hst2]
        exact cellsEq_sound hC d fs.toList 0 a a' xs ys b hp h (by simpa using A) (by simpa using B)
       ·subst hb
        obtain ⟨e1,e2⟩:=cellsEq_bits hC _ _ _ _ _ h A B
        simp only [Instr.sameBits,Bool.and_eq_true,beq_iff_eq]
        exact ⟨by simpa using e1,e2 n⟩
       ·exact hlen
    ·cases h
   ·cases h
 ·obtain ⟨h1,h2,h3,h4⟩:=cellEq_sound hC hx hy h (d + 1)
  exact ⟨h1,fun hb n => h4 hb (n + 1),.inl ⟨h3,h2⟩⟩
theorem checkKey_fields (hC:CtxOk C) (e:Bool) (n:Nat) (cs:Array Value):∀ (fs:List Field) (off:Nat),plainStruct C fs off = true → off + fs.length ≤ cs.size →
  Sem.run C.P (forIn fs PUnit.unit fun f _ => do
   if f.name ≠ "_" then do
    Instr.checkKey e (n + 1) f.type (← part f.type cs f.offset)
    pure (ForInStep.yield PUnit.unit)
   else pure (ForInStep.yield PUnit.unit)) w = .ok PUnit.unit w
 | [],_,_,_ => rfl
 | f :: fs,off,hp,hl => by
  simp only [plainStruct,Bool.and_eq_true,beq_iff_eq,bne_iff_ne,ne_eq] at hp
  obtain ⟨⟨⟨h1,h2⟩,h3⟩,h4⟩:=hp
  simp only [List.length_cons] at hl
  have hoff:off < cs.size:=by omega
  have hpart:=part_plain (w:=w) hC h3 (xs:=cs) (off:=off) (u:=cs[off]) (by simp [hoff])
  obtain ⟨ti,ht,hu⟩:=plainCell_und h3
  have hk:(Instr.checkKey e (n + 1) f.type cs[off]).run C.P w = .ok () w:=by
   have hund:=hC.und _ ti ht
   simp only [Instr.checkKey,Sem.run_bind,run_underlying hund,Result.andThen_ok]
   rcases hu with ⟨k,hu⟩ | hu | hu <;> rw [hu] <;> rfl
  simp only [List.forIn_cons,ne_eq,h2,not_false_eq_true,if_true,Sem.run_bind,h1,hpart,Result.andThen_ok,hk,Sem.run_pure]
  exact checkKey_fields hC e n cs fs (off + 1) h4 (by omega)
theorem checkKey_sound' (hC:CtxOk C) {t:TypeId} {k:AV} {u:Value} (hk:VR G w k u) (h:(keyEq C t k k).isSome = true) (e:Bool) (n:Nat):(Instr.checkKey e (n + 2) t u).run C.P w = .ok () w:=by
 cases hb:keyEq C t k k with
 | none => simp [hb] at h
 | some b =>
  obtain ⟨_,_,h3⟩:=keyEq_sound hC hk hk hb 0
  rcases h3 with ⟨hp,_⟩ | ⟨fs,hund,hp,a,cs,rfl,rfl,hlen⟩
  ·obtain ⟨ti,ht,hu⟩:=plainCell_und hp
   have hund:=hC.und _ ti ht
   simp only [Instr.checkKey,Sem.run_bind,run_underlying hund,Result.andThen_ok]
   rcases hu with ⟨k,hu⟩ | hu | hu <;> rw [hu] <;> rfl
  ·rw [Instr.checkKey]
   simp only [Sem.run_bind,run_underlying hund,Result.andThen_ok]
   cases hk with
   | agg _ _ l1 r1 =>
    have:=checkKey_fields (w:=w) hC e n cs fs.toList 0 hp (by simp; omega)
    have e2:(forIn fs PUnit.unit fun f __s => do
      if f.name ≠ "_" then do
       Instr.checkKey e (n + 1) f.type (← part f.type cs f.offset)
       pure (ForInStep.yield PUnit.unit)
      else pure (ForInStep.yield PUnit.unit):Sem PUnit).run C.P w = .ok PUnit.unit w:=by
     rw [← Array.forIn_toList]; exact this
    simp only [ne_eq,ite_not,bind_pure_comp] at e2 ⊢
    rw [e2]
    rfl
theorem checkKey_sound (hC:CtxOk C) {t:TypeId} {k:AV} {u:Value} (hk:VR G w k u) (h:(keyEq C t k k).isSome = true) (e:Bool):(Instr.checkKey e 10000 t u).run C.P w = .ok () w :=
 checkKey_sound' hC hk h e 9998
theorem findA_none {kt:TypeId} {k:AV}:∀ (es:List Ent) (i:Nat),findA C kt k es i = some none ↔ ∀ x ∈ es,keyEq C kt k x.1 = some false
 | [],i => by simp [findA]
 | (e,v,b) :: r,i => by
  simp only [findA,List.mem_cons,forall_eq_or_imp]
  rw [← findA_none r (i + 1)]
  cases keyEq C kt k e with
  | none => simp
  | some t => cases t <;> cases findA C kt k r (i + 1) with
   | none => simp
   | some y => cases y <;> simp
theorem findA_some {kt:TypeId} {k v:AV} {j:Nat}:∀ (es:List Ent) (i:Nat),findA C kt k es i = some (some (j,v)) →
  ∃ l1 e b l2,es = l1 ++ (e,v,b) :: l2 ∧ j = i + l1.length ∧ keyEq C kt k e = some true ∧ ∀ x ∈ l1 ++ l2,keyEq C kt k x.1 = some false
 | [],i,h => by simp [findA] at h
 | (e,u,b) :: r,i,h => by
  simp only [findA] at h
  cases he:keyEq C kt k e with
  | none => simp [he] at h
  | some t =>
   cases hr:findA C kt k r (i + 1) with
   | none => simp [he,hr] at h
   | some y =>
    cases t with
    | true =>
     cases y with
     | none =>
      simp [he,hr] at h
      obtain ⟨rfl,rfl⟩:=h
      exact ⟨[],e,b,r,rfl,by simp,he,by simpa using (findA_none r _).1 hr⟩
     | some z => simp [he,hr] at h
    | false =>
     simp [he,hr] at h
     subst h
     obtain ⟨l1,e',b',l2,h1,h2,h3,h4⟩:=findA_some r (i + 1) hr
     exact ⟨(e,u,b) :: l1,e',b',l2,by simp [h1],by simp [h2]; omega,h3,fun x hx => by
      rcases List.mem_append.1 hx with hx | hx
      ·rcases List.mem_cons.1 hx with rfl | hx
       ·exact he
       ·exact h4 x (by simp [hx])
      ·exact h4 x (by simp [hx])⟩
theorem EntRel.length:∀ {es:List Ent} {ms:List MapEntry},EntRel G w es ms → es.length = ms.length
 | [],[],_ => rfl
 | _ :: _,_ :: _,h => congrArg (· + 1) (EntRel.length h.2.2)
theorem EntRel.split:∀ {l1:List Ent} {x:Ent} {l2:List Ent} {ms:List MapEntry},EntRel G w (l1 ++ x :: l2) ms → ∃ m1 m m2,ms = m1 ++ m :: m2 ∧ EntRel G w l1 m1 ∧ VR G w x.1 m.key ∧ VR G w x.2.1 m.val ∧ EntRel G w l2 m2 ∧ m1.length = l1.length
 | [],x,l2,m :: ms,h => ⟨[],m,ms,rfl,trivial,h.1,h.2.1,h.2.2,rfl⟩
 | y :: l1,x,l2,m :: ms,h => by
  obtain ⟨m1,m',m2,e,h1,h2,h3,h4,h5⟩:=EntRel.split h.2.2
  exact ⟨m :: m1,m',m2,by simp [e],⟨h.1,h.2.1,h1⟩,h2,h3,h4,by simp [h5]⟩
theorem EntRel.append:∀ {l1 l2:List Ent} {m1 m2:List MapEntry},EntRel G w l1 m1 → EntRel G w l2 m2 → EntRel G w (l1 ++ l2) (m1 ++ m2)
 | [],_,[],_,_,h => h
 | _ :: _,_,_ :: _,_,h,k => ⟨h.1,h.2.1,EntRel.append h.2.2 k⟩
theorem zip_all_symm {f g:Value → Value → Bool} (h:∀ x y,f x y = true → g y x = true):∀ (a b:List Value),((a.zip b).all fun (x,y) => f x y) = true → ((b.zip a).all fun (x,y) => g x y) = true
 | [],b,_ => by cases b <;> rfl
 | _ :: _,[],_ => rfl
 | x :: a,y :: b,k => by
  simp only [List.zip_cons_cons,List.all_cons,Bool.and_eq_true] at k ⊢
  exact ⟨h x y k.1,zip_all_symm h a b k.2⟩
theorem sameBits_symm:∀ (n:Nat) (u v:Value),Instr.sameBits n u v = true → Instr.sameBits n v u = true:=by
 intro n
 induction n with
 | zero => intro u v h; cases u <;> cases v <;> first
   | (simp only [Instr.sameBits] at h ⊢; rw [beq_toListBytes,beq_iff_eq] at h ⊢; exact h.symm)
   | (simp_all [Instr.sameBits]; done)
 | succ n ih =>
  intro u v h
  cases u <;> cases v <;> first
   | (simp [Instr.sameBits] at h; done)
   | (simp only [Instr.sameBits] at h ⊢; rw [beq_toListBytes,beq_iff_eq] at h ⊢; exact h.symm)
   | (simp only [Instr.sameBits,Bool.and_eq_true,beq_iff_eq] at h ⊢
      first
      | exact ⟨h.1.symm,ih _ _ h.2⟩
      | exact ⟨h.1.symm,zip_all_symm (fun x y => ih x y) _ _ h.2⟩
      | exact h.symm
      | (obtain ⟨⟨a,b⟩,c⟩:=h; exact ⟨⟨a.symm,b.symm⟩,c.symm⟩)
      | (obtain ⟨a,b⟩:=h; exact ⟨a.symm,b.symm⟩)
      | trivial)
   | simp_all [Instr.sameBits]
theorem findKey_none (hC:CtxOk C) {kt:TypeId} {k:AV} {u:Value} (hk:VR G w k u) (hw:(keyEq C kt k k).isSome = true) {es:List Ent} {ms:List MapEntry} (hm:EntRel G w es ms) (h:∀ x ∈ es,keyEq C kt k x.1 = some false) :
  (Instr.findKey kt u ms).run C.P w = .ok none w:=by
 cases hb:keyEq C kt k k with
 | none => simp [hb] at hw
 | some b =>
  obtain ⟨_,_,h3⟩:=keyEq_sound hC hk hk hb 0
  have asking:∀ (es:List Ent) (ms:List MapEntry) (i:Nat),EntRel G w es ms → (∀ x ∈ es,keyEq C kt k x.1 = some false) → (Instr.findAsking kt u ms i).run C.P w = .ok none w:=by
   intro es
   induction es with
   | nil => intro ms i hm _; cases ms <;> first | exact hm.elim | rfl
   | cons x es ih =>
    intro ms i hm hx
    cases ms with
    | nil => exact hm.elim
    | cons m ms =>
     have he:=(keyEq_sound hC hk hm.1 (hx x (by simp)) 9998).1
     simp only [Instr.findAsking,Sem.run_bind,Op.equal,Op.maxDepth,he,Result.andThen_ok,Bool.false_eq_true,if_false]
     exact ih ms (i + 1) hm.2.2 fun y hy => hx y (by simp [hy])
  have now:∀ (kd:TypeDesc),C.P.underlying kt = some kd → ∀ (es:List Ent) (ms:List MapEntry) (i:Nat),EntRel G w es ms → (∀ x ∈ es,keyEq C kt k x.1 = some false) → Instr.findNow kd u ms i = some none ∨ Instr.findNow kd u ms i = none:=by
   intro kd hkd es
   induction es with
   | nil => intro ms i hm _; cases ms <;> first | exact hm.elim | exact .inl rfl
   | cons x es ih =>
    intro ms i hm hx
    cases ms with
    | nil => exact hm.elim
    | cons m ms =>
     obtain ⟨_,_,h3⟩:=keyEq_sound hC hk hm.1 (hx x (by simp)) 0
     rcases h3 with ⟨_,hs⟩ | ⟨fs,hund,_,_,_,_,rfl,_⟩
     ·simp only [Instr.findNow,hs kd hkd]
      exact ih ms (i + 1) hm.2.2 fun y hy => hx y (by simp [hy])
     ·rw [hund] at hkd; cases hkd
      exact .inr (by simp [Instr.findNow,Instr.sameNow])
  obtain ⟨kd,hkd⟩:∃ kd,C.P.underlying kt = some kd:=by
   rcases h3 with ⟨hp,_⟩ | ⟨fs,hund,_⟩
   ·obtain ⟨ti,ht,_⟩:=plainCell_und hp; exact ⟨_,hC.und _ _ ht⟩
   ·exact ⟨_,hund⟩
  simp only [Instr.findKey,Sem.run_bind,run_underlying hkd,Result.andThen_ok]
  rcases now kd hkd es ms 0 hm h with e | e <;> rw [e]
  ·rfl
  ·exact asking es ms 0 hm h
theorem findKey_some (hC:CtxOk C) {kt:TypeId} {k e v:AV} {b0:Nat} {u:Value} (hk:VR G w k u) {l1 l2:List Ent} {ms:List MapEntry} (hm:EntRel G w (l1 ++ (e,v,b0) :: l2) ms)
  (he:keyEq C kt k e = some true) (h:∀ x ∈ l1 ++ l2,keyEq C kt k x.1 = some false) :
  ∃ m1 m m2,ms = m1 ++ m :: m2 ∧ m1.length = l1.length ∧ EntRel G w l1 m1 ∧ EntRel G w l2 m2 ∧ VR G w v m.val ∧ Instr.sameBits 10000 m.key u = true ∧ (Instr.findKey kt u ms).run C.P w = .ok (some (l1.length,m.val)) w:=by
 obtain ⟨m1,m,m2,rfl,h1,h2,h3,h4,h5⟩:=hm.split
 refine ⟨m1,m,m2,rfl,h5,h1,h4,h3,?_,?_⟩
 ·exact sameBits_symm _ _ _ ((keyEq_sound hC hk h2 he 0).2.1 rfl 9998)
 ·obtain ⟨_,_,h6⟩:=keyEq_sound hC hk h2 he 0
  have asking:∀ (l1:List Ent) (m1:List MapEntry) (i:Nat),EntRel G w l1 m1 → (∀ x ∈ l1,keyEq C kt k x.1 = some false) → (Instr.findAsking kt u (m1 ++ m :: m2) i).run C.P w = .ok (some (i + l1.length,m.val)) w:=by
   intro l1
   induction l1 with
   | nil =>
    intro m1 i hm _
    cases m1 with
    | cons _ _ => exact hm.elim
    | nil =>
     have hq:=(keyEq_sound hC hk h2 he 9998).1
     simp only [List.nil_append,Instr.findAsking,Sem.run_bind,Op.equal,Op.maxDepth,hq,Result.andThen_ok,if_true]
     rfl
   | cons x l1 ih =>
    intro m1 i hm hx
    cases m1 with
    | nil => exact hm.elim
    | cons m' m1 =>
     have hq:=(keyEq_sound hC hk hm.1 (hx x (by simp)) 9998).1
     simp only [List.cons_append,Instr.findAsking,Sem.run_bind,Op.equal,Op.maxDepth,hq,Result.andThen_ok,Bool.false_eq_true,if_false]
     rw [ih m1 (i + 1) hm.2.2 fun y hy => hx y (by simp [hy])]
     simp [Nat.add_assoc,Nat.add_comm 1]
  have now:∀ (kd:TypeDesc),C.P.underlying kt = some kd → ∀ (l1:List Ent) (m1:List MapEntry) (i:Nat),EntRel G w l1 m1 → (∀ x ∈ l1,keyEq C kt k x.1 = some false) →
    Instr.findNow kd u (m1 ++ m :: m2) i = some (some (i + l1.length,m.val)) ∨ Instr.findNow kd u (m1 ++ m :: m2) i = none:=by
   intro kd hkd l1
   induction l1 with
   | nil =>
    intro m1 i hm _
    cases m1 with
    | cons _ _ => exact hm.elim
    | nil =>
     rcases h6 with ⟨_,hs⟩ | ⟨fs,hund,_,_,_,_,rfl,_⟩
     ·exact .inl (by simp [Instr.findNow,hs kd hkd])
     ·rw [hund] at hkd; cases hkd
      exact .inr (by simp [Instr.findNow,Instr.sameNow])
   | cons x l1 ih =>
    intro m1 i hm hx
    cases m1 with
    | nil => exact hm.elim
    | cons m' m1 =>
     obtain ⟨_,_,h7⟩:=keyEq_sound hC hk hm.1 (hx x (by simp)) 0
     rcases h7 with ⟨_,hs⟩ | ⟨fs,hund,_,_,_,_,rfl,_⟩
     ·simp only [List.cons_append,Instr.findNow,hs kd hkd]
      have:=ih m1 (i + 1) hm.2.2 fun y hy => hx y (by simp [hy])
      simpa [Nat.add_assoc,Nat.add_comm 1] using this
     ·rw [hund] at hkd; cases hkd
      exact .inr (by simp [Instr.findNow,Instr.sameNow])
  obtain ⟨kd,hkd⟩:∃ kd,C.P.underlying kt = some kd:=by
   rcases h6 with ⟨hp,_⟩ | ⟨fs,hund,_⟩
   ·obtain ⟨ti,ht,_⟩:=plainCell_und hp; exact ⟨_,hC.und _ _ ht⟩
   ·exact ⟨_,hund⟩
  have hx:∀ x ∈ l1,keyEq C kt k x.1 = some false:=fun x hx => h x (by simp [hx])
  simp only [Instr.findKey,Sem.run_bind,run_underlying hkd,Result.andThen_ok]
  rcases now kd hkd l1 m1 0 h1 hx with e | e <;> rw [e]
  ·simp
  ·simpa using asking l1 m1 0 h1 hx
end
end Go.AE

namespace Go.AE
open Go
section
variable {C:Ctx} {G:Gh} {w:World}
theorem run_sameAddr {a b:Addr} (h:a.block = b.block):(sameAddr a b).run C.P w = .ok (a == b) w:=by
 simp [sameAddr,h]
def Unlike (u v:Value):Prop:=(∀ xs ys,¬ (u = .agg xs ∧ v = .agg ys)) ∧ ¬ (u = .nilIface ∧ v = .nilIface) ∧ (∀ k a k' a',¬ (u = .int k a ∧ v = .int k' a')) ∧ (∀ s s',¬ (u = .string s ∧ v = .string s')) ∧
 (∀ k a k' a',¬ (u = .float k a ∧ v = .float k' a')) ∧ (∀ k a b k' a' b',¬ (u = .complex k a b ∧ v = .complex k' a' b'))
theorem eqV_ptr (hC:CtxOk C) {e:TypeId} {l off m off':Nat} {u v:Value} (hx:VR G w (.ptr l off) u) (hy:VR G w (.ptr m off') v) {b:Bool}
  (h:(if l = m then (match sizeIs C e with | some (_ + 1) => some (off == off') | _ => none) else none) = some b) :
  ∃ p q,u = .pointer (some p) ∧ v = .pointer (some q) ∧ (do if (← sizeOf e) ≠ 0 then sameAddr p q else if p == q then pure true else do pure ((← choose .zeroSizeEq) = 1):Sem Bool).run C.P w = .ok b w:=by
 split at h
 ·rename_i hlm
  subst hlm
  cases hte:C.ty e with
  | none => simp [sizeIs,hte] at h
  | some ei =>
   simp only [sizeIs,hte,Option.map_some] at h
   cases hx with
   | ptr _ _ L hl =>
    cases hy with
    | ptr _ _ L' hl' =>
     rw [hl] at hl'; cases hl'
     refine ⟨_,_,rfl,rfl,?_⟩
     simp only [Sem.run_bind,run_size hC hte,Result.andThen_ok]
     split at h
     ·rename_i n hs
      cases h
      rw [if_pos (by rw [Option.some.injEq] at hs; omega),run_sameAddr (a:=⟨L.blk,L.dl + off,none⟩) (b:=⟨L.blk,L.dl + off',none⟩) rfl]
      congr 1
      rw [Bool.eq_iff_iff]
      simp
     ·cases h
 ·cases h
theorem SKok.cases {k:SK} {es:List AV} {a:Option Addr} {cap:Nat} (hk:SKok G k es a cap):(k = .nil → a = none ∧ cap = 0 ∧ es = []) ∧ (k ≠ .nil → ∃ q,a = some q):=by
 cases k <;> simp only [SKok] at hk
 ·exact ⟨fun _ => hk,fun h => absurd rfl h⟩
 ·exact ⟨(fun h => by cases h),fun _ => Option.isSome_iff_exists.1 hk.1⟩
 ·exact ⟨(fun h => by cases h),fun _ => Option.isSome_iff_exists.1 hk.1⟩
 ·obtain ⟨L,_,hs,_⟩:=hk
  exact ⟨(fun h => by cases h),fun _ => Option.isSome_iff_exists.1 hs⟩
theorem eqV_sound' (hC:CtxOk C) {t:TypeId} {x y:AV} {u v:Value} (hx:VR G w x u) (hy:VR G w y v) {b:Bool} (h:eqV C t x y = some b) (d:Nat) :
  (Op.equalIn (d + 1) t u v).run C.P w = .ok b w ∧ Unlike u v:=by
 unfold eqV at h
 cases ht:C.ty t with
 | none => simp [ht] at h
 | some ti =>
  have hu:=hC.und t ti ht
  simp only [ht] at h
  rw [Op.equalIn]
  simp only [Sem.run_bind,run_underlying hu,Result.andThen_ok]
  cases hun:ti.und with
  | pointer e =>
   simp only [hun] at h
   cases x <;> first | (simp at h; done) | skip
   all_goals (cases y <;> first | (simp at h; done) | skip)
   case ptr.ptr =>
    obtain ⟨p,q,rfl,rfl,hr⟩:=eqV_ptr hC hx hy h
    exact ⟨hr,by simp [Unlike]⟩
   all_goals (cases hx; cases hy; cases h; exact ⟨rfl,by simp [Unlike]⟩)
  | slice e =>
   simp only [hun] at h
   cases x with
   | slice k es =>
    cases y with
    | slice k' es' =>
     cases hx with
     | slice _ _ a cap vals hk hc hv hz =>
      cases hy with
      | slice _ _ a' cap' vals' hk' hc' hv' hz' =>
       have h1:=SKok.cases hk
       have h2:=SKok.cases hk'
       by_cases e1:k = .nil
       ·subst e1
        obtain ⟨rfl,rfl,rfl⟩:=h1.1 rfl
        by_cases e2:k' = .nil
        ·subst e2
         obtain ⟨rfl,rfl,rfl⟩:=h2.1 rfl
         cases h
         exact ⟨rfl,by simp [Unlike]⟩
        ·obtain ⟨q,rfl⟩:=h2.2 e2
         have:b = false:=by cases k' <;> first | exact absurd rfl e2 | (cases h; rfl)
         subst this
         exact ⟨rfl,by simp [Unlike]⟩
       ·obtain ⟨q,rfl⟩:=h1.2 e1
        by_cases e2:k' = .nil
        ·subst e2
         obtain ⟨rfl,rfl,rfl⟩:=h2.1 rfl
         have:b = false:=by cases k <;> first | exact absurd rfl e1 | (cases h; rfl)
         subst this
         exact ⟨rfl,by simp [Unlike]⟩
        ·exfalso
         cases k <;> cases k' <;> first | exact absurd rfl e1 | exact absurd rfl e2 | (cases h; done)
    | row l off len lim =>
     cases hx with
     | slice _ _ a cap vals hk hc hv hz =>
      cases hy with
      | row _ _ _ _ L a' cap' h1 h2 h3 h4 h5 h6 h7 =>
       cases k <;> cases h
       obtain ⟨rfl,_,rfl⟩:=hk
       exact ⟨rfl,by simp [Unlike]⟩
    | _ => cases k <;> cases h
   | row l off len lim =>
    cases y with
    | slice k es =>
     cases hx with
     | row _ _ _ _ L a' cap' h1 h2 h3 h4 h5 h6 h7 =>
      cases hy with
      | slice _ _ a cap vals hk hc hv hz =>
       cases k <;> cases h
       obtain ⟨rfl,_,rfl⟩:=hk
       exact ⟨rfl,by simp [Unlike]⟩
    | _ => cases h
   | _ => cases y <;> cases h
  | bool =>
   simp only [hun] at h
   cases x <;> first | (simp at h; done) | skip
   all_goals (cases y <;> first | (simp at h; done) | skip)
   all_goals (cases hx; cases hy; cases h; exact ⟨rfl,by simp [Unlike]⟩)
  | map k e =>
   simp only [hun] at h
   cases x <;> first | (simp at h; done) | skip
   all_goals (cases y <;> first | (simp at h; done) | skip)
   all_goals (cases hx; cases hy; cases h; exact ⟨rfl,by simp [Unlike]⟩)
  | func a b c =>
   simp only [hun] at h
   cases x <;> first | (simp at h; done) | skip
   all_goals (cases y <;> first | (simp at h; done) | skip)
   all_goals (cases hx <;> cases hy <;> (cases h; exact ⟨rfl,by simp [Unlike]⟩))
  | interface ms =>
   simp only [hun] at h
   cases x <;> first | (simp at h; done) | skip
   all_goals (cases y <;> first | (simp at h; done) | skip)
   all_goals (cases hx; cases hy; cases h; exact ⟨rfl,by simp [Unlike]⟩)
  | _ => simp [hun] at h
theorem eqV_sound (hC:CtxOk C) {t:TypeId} {x y:AV} {u v:Value} (hx:VR G w x u) (hy:VR G w y v) {b:Bool} (h:eqV C t x y = some b) :
  (Op.equal t u v).run C.P w = .ok b w ∧ Unlike u v:=eqV_sound' hC hx hy h 9999
theorem boolA_some {neg:Bool} {r:Option Bool} {v:AV} (h:boolA neg r = some v):∃ b,r = some b ∧ v = .bool (b != neg):=by
 cases r with
 | none => cases h
 | some b => cases h; exact ⟨b,rfl,rfl⟩
theorem binOp_equal {op:BinOp} {t:TypeId} {u v:Value} {b:Bool} (ho:op = .eql ∨ op = .neq) (h:(Op.equal t u v).run C.P w = .ok b w) (h1:∀ k a k' a',¬ (u = .int k a ∧ v = .int k' a')) (h2:∀ s s',¬ (u = .string s ∧ v = .string s'))
  (h3:∀ k a k' a',¬ (u = .float k a ∧ v = .float k' a')) (h4:∀ k a b k' a' b',¬ (u = .complex k a b ∧ v = .complex k' a' b')):(binOp op t u v).run C.P w = .ok (.bool (b != (op == .neq))) w:=by
 have e:binOp op t u v = (do pure (.bool ((← Op.equal t u v) != (op == .neq)))):=by
  rcases ho with rfl | rfl
  ·cases u <;> cases v <;> first
    | exact absurd ⟨rfl,rfl⟩ (h1 _ _ _ _) | exact absurd ⟨rfl,rfl⟩ (h2 _ _) | exact absurd ⟨rfl,rfl⟩ (h3 _ _ _ _) | exact absurd ⟨rfl,rfl⟩ (h4 _ _ _ _ _ _)
    | (show (do pure (Value.bool (← Op.equal t _ _)):Sem Value) = _; congr 1; funext b; cases b <;> rfl)
  ·cases u <;> cases v <;> first
    | exact absurd ⟨rfl,rfl⟩ (h1 _ _ _ _) | exact absurd ⟨rfl,rfl⟩ (h2 _ _) | exact absurd ⟨rfl,rfl⟩ (h3 _ _ _ _) | exact absurd ⟨rfl,rfl⟩ (h4 _ _ _ _ _ _)
    | (show (do pure (Value.bool (!(← Op.equal t _ _))):Sem Value) = _; congr 1; funext b; cases b <;> rfl)
 rw [e]
 simp [h]
theorem nilIface_sound (hC:CtxOk C) {op:BinOp} {t:TypeId} {x y:Operand} {ti:TI} {ms:Array (String × TypeId)} (ht:C.ty t = some ti) (hu:ti.und = .interface ms) (hc:(isConstO x || isConstO y) = true) (ho:op = .eql ∨ op = .neq) :
  (do eqGuard op t x y .nilIface .nilIface; binOp op t .nilIface .nilIface:Sem Value).run C.P w = .ok (.bool (true != (op == .neq))) w:=by
 have hund:=hC.und t ti ht
 rw [hu] at hund
 have e1:(eqGuard op t x y .nilIface .nilIface).run C.P w = .ok () w:=by
  rcases ho with rfl | rfl <;> (unfold eqGuard; cases x <;> cases y <;> simp_all [isConstO])
 have e2:(Op.equal t .nilIface .nilIface).run C.P w = .ok true w:=by
  show (Op.equalIn (9999 + 1) t .nilIface .nilIface).run C.P w = _
  rw [Op.equalIn]
  simp only [Sem.run_bind,run_underlying hund,Result.andThen_ok]
  rfl
 rw [Sem.run_bind,e1]
 simp only [Result.andThen_ok]
 exact binOp_equal ho e2 (by simp) (by simp) (by simp) (by simp)
theorem binA_sound (hC:CtxOk C) {op:BinOp} {t:TypeId} {xo yo:Operand} {x y r:AV} {u v:Value} (hx:VR G w x u) (hy:VR G w y v) (h:binA C op t xo yo x y = some r) :
  ∃ q,(do eqGuard op t xo yo u v; binOp op t u v:Sem Value).run C.P w = .ok q w ∧ VR G w r q:=by
 unfold binA at h
 split at h
 ·
  cases hx; cases hy
  rw [Sem.run_bind,eqGuard_quiet (by simp) (by simp)]
  simp only [Result.andThen_ok]
  split at h
  ·exact shiftOp_sound h
  ·exact shiftOp_sound h
  ·split at h
   ·rename_i hk; subst hk; exact intOp_sound h
   ·cases h
 ·
  cases hx; cases hy
  rw [Sem.run_bind,eqGuard_quiet (by simp) (by simp)]
  simp only [Result.andThen_ok]
  exact strOp_sound h
 ·
  rename_i a b
  split at h
  ·cases h
  ·rename_i hg
   have hkey:∀ {b':Bool},keyEq C t (.agg a) (.agg b) = some b' → (Op.equal t u v).run C.P w = .ok b' w:=fun hk => (keyEq_sound hC hx hy hk 9998).1
   cases hx with
   | agg _ xs l1 r1 =>
    cases hy with
    | agg _ ys l2 r2 =>
     rw [Sem.run_bind,run_eqGuard_agg w op t xo yo xs ys (by simpa using hg)]
     simp only [Result.andThen_ok]
     split at h
     ·obtain ⟨b',hb,rfl⟩:=boolA_some h
      exact ⟨_,binOp_equal (.inl rfl) (hkey hb) (by simp) (by simp) (by simp) (by simp),.bool _⟩
     ·obtain ⟨b',hb,rfl⟩:=boolA_some h
      exact ⟨_,binOp_equal (.inr rfl) (hkey hb) (by simp) (by simp) (by simp) (by simp),.bool _⟩
     ·cases h
 ·
  cases hx; cases hy
  split at h
  ·rename_i hc
   split at h
   ·rename_i ms s1 s2 s3 s4 s5 heq
    split at h
    ·cases h; exact ⟨_,nilIface_sound hC heq rfl hc (.inl rfl),.bool _⟩
    ·cases h; exact ⟨_,nilIface_sound hC heq rfl hc (.inr rfl),.bool _⟩
    ·cases h
   ·cases h
  ·cases h
 ·split at h
  ·obtain ⟨b',hb,rfl⟩:=boolA_some h
   obtain ⟨e1,e2⟩:=eqV_sound hC hx hy hb
   rw [Sem.run_bind,eqGuard_quiet e2.1 e2.2.1]
   exact ⟨_,binOp_equal (.inl rfl) e1 e2.2.2.1 e2.2.2.2.1 e2.2.2.2.2.1 e2.2.2.2.2.2,.bool _⟩
  ·obtain ⟨b',hb,rfl⟩:=boolA_some h
   obtain ⟨e1,e2⟩:=eqV_sound hC hx hy hb
   rw [Sem.run_bind,eqGuard_quiet e2.1 e2.2.1]
   exact ⟨_,binOp_equal (.inr rfl) e1 e2.2.2.1 e2.2.2.2.1 e2.2.2.2.2.1 e2.2.2.2.2.2,.bool _⟩
  ·cases h
theorem unA_sound {op:UnOp} {x r:AV} {u:Value} (hx:VR G w x u) (h:unA op x = some r):∃ q,(Op.unary op u).run C.P w = .ok q w ∧ VR G w r q:=by
 unfold unA at h
 split at h
 ·cases hx; cases h; exact ⟨_,rfl,.int _ _⟩
 ·cases hx; cases h; exact ⟨_,rfl,.int _ _⟩
 ·cases hx; cases h; exact ⟨_,rfl,.bool _⟩
 ·cases h
end
end Go.AE

namespace Go.AE
open Go
section
variable {C:Ctx} {G:Gh} {w:World}
theorem flat_bytes:∀ {es:List AV} {l:List Nat},bytesOf? es = some l → flat es = es ∧ es = l.map (fun n => AV.int .u8 (.ofNat n)) ∧ ∀ n ∈ l,n < 256
 | [],l,h => by cases h; simp [flat]
 | x :: r,l,h => by
  unfold bytesOf? at h
  split at h
  ·rename_i heq; cases heq
  ·rename_i n r' heq
   cases heq
   split at h
   ·rename_i hn
    cases hr:bytesOf? r with
    | none => simp [hr] at h
    | some l' =>
     simp only [hr,Option.map_some,Option.some.injEq] at h
     subst h
     obtain ⟨h1,h2,h3⟩:=flat_bytes hr
     refine ⟨?_,by rw [h2]; simp,fun m hm => ?_⟩
     ·simp only [flat,List.flatMap_cons,AV.cells,List.singleton_append] at h1 ⊢
      rw [h1]
     ·rcases List.mem_cons.1 hm with rfl | hm
      ·exact hn
      ·exact h3 m hm
   ·cases h
  ·cases h
theorem vr_byte {n:Nat} {v:Value} (h:VR G w (.int .u8 (.ofNat n)) v):v = .int .u8 (.ofNat n):=by cases h; rfl
theorem bytes_vals:∀ {l:List Nat} {vs:List Value},VRs G w (l.map fun n => AV.int .u8 (.ofNat n)) vs → vs = l.map fun n => Value.int .u8 (.ofNat n)
 | [],[],_ => rfl
 | _ :: _,_ :: _,h => by rw [vr_byte h.1,bytes_vals h.2]; rfl
theorem bytesLoop {f:Value → ByteArray → Sem (ForInStep ByteArray)} (hf:∀ (n:Nat) (s:ByteArray),f (.int .u8 (.ofNat n)) s = pure (ForInStep.yield (s.push (UInt8.ofNat n)))) :
  ∀ (l:List Nat) (s:ByteArray),(forIn (l.map fun n => Value.int .u8 (.ofNat n)) s f:Sem ByteArray).run C.P w = .ok ⟨s.data ++ (l.map fun n => UInt8.ofNat n).toArray⟩ w
 | [],s => by simp
 | n :: l,s => by
  rw [List.map_cons,List.forIn_cons]
  simp only [Sem.run_bind,hf,Sem.run_pure,Result.andThen_ok]
  rw [bytesLoop hf l]
  congr 1
  apply ByteArray.ext
  simp
theorem bytes_str (l:List Nat) (h:∀ n ∈ l,n < 256):(l.map fun n => UInt8.ofNat n).map (·.toNat) = l:=by
 rw [List.map_map]
 conv => rhs; rw [← List.map_id l]
 apply List.map_congr_left
 intro n hn
 simp only [Function.comp,id,UInt8.toNat_ofNat']
 exact Nat.mod_eq_of_lt (h n hn)
theorem bytesToString_sound {k:SK} {es:List AV} {v:Value} {l:List Nat} (hx:VR G w (.slice k es) v) (h:bytesOf? es = some l):∃ q,(Conv.bytesToString v).run C.P w = .ok q w ∧ VR G w (.str l) q:=by
 obtain ⟨h1,h2,h3⟩:=flat_bytes h
 cases hx with
 | slice _ _ a cap vals hk hc hv hz =>
  rw [h1] at hc hv
  cases a with
  | none =>
   have:es = []:=by
    cases es with
    | nil => rfl
    | cons x r => obtain ⟨b,o,e,_⟩:=hc 0 (by simp); cases e
   subst this
   cases h
   exact ⟨_,rfl,str_mk _ _ _ _ rfl⟩
  | some a =>
   have hvs:=vrs_range hv
   have hat:=hc.at
   have hlist:((List.range es.length).map vals) = l.map fun n => Value.int .u8 (.ofNat n):=by
    rw [h2] at hvs
    rw [← bytes_vals hvs,h2]
   rw [hlist] at hat
   have hlen:es.length = (l.map fun n => Value.int .u8 (.ofNat n)).length:=by rw [h2]; simp
   have hld:=run_loadCells_list (P:=C.P) w a _ hat
   simp only [Conv.bytesToString,Sem.run_bind]
   rw [hlen,hld]
   simp only [Result.andThen_ok]
   rw [← Array.forIn_toList]
   rw [bytesLoop (fun n s => rfl) l ByteArray.empty]
   exact ⟨_,rfl,str_mk _ _ _ _ (by simpa using bytes_str l h3)⟩
theorem mem_shape {L:Loc} {e:TypeId} {cells:List AV} {fz:Nat} {full:Bool} (h:ObjRel C G w L (.mem e cells full fz)):w.shape? L.blk = some (e,L.tot):=by
 obtain ⟨c,fr,h1,h2,_⟩:=h
 simp [World.shape?,h1,h2]
theorem run_seenAt {a:Addr} {e:TypeId} {n:Nat} (h:w.shape? a.block = some (e,n)):(Conv.seenAt a).run C.P w = .ok a w:=by
 simp [Conv.seenAt,viewAt,h]
theorem convA_sound (hC:CtxOk C) {st:St} (hr:Rel C G st w) {s d:TypeId} {x r:AV} {u:Value} (hx:VR G w x u) (h:convA C st s d x = some r) :
  ∃ q,(convert s d u).run C.P w = .ok q w ∧ VR G w r q:=by
 unfold convA at h
 cases hs:C.ty s with
 | none => simp [hs] at h
 | some si =>
  cases hd:C.ty d with
  | none => simp [hs,hd] at h
  | some di =>
   have us:=hC.und s si hs
   have ud:=hC.und d di hd
   simp only [hs,hd] at h
   unfold convert
   simp only [Sem.run_bind,run_underlying us,run_underlying ud,Result.andThen_ok]
   split at h
   ·
    rename_i k k' n hk
    cases hx; cases h
    rw [hk]
    exact ⟨_,rfl,.int _ _⟩
   ·rename_i l hk
    cases hx; cases h
    rw [hk]
    cases si.und <;> exact ⟨_,rfl,.str _⟩
   ·rename_i k n hk
    cases hx; cases h
    rw [hk]
    cases si.und <;> exact ⟨_,rfl,.str _⟩
   ·rename_i e k es hk1 hk2
    split at h
    ·rename_i z1 z2 z3 z4 z5 heq
     cases hb:bytesOf? es with
     | none => simp [hb] at h
     | some l =>
      simp only [hb,Option.map_some,Option.some.injEq] at h
      subst h
      obtain ⟨q,e1,e2⟩:=bytesToString_sound hx hb (C:=C)
      have ue:=hC.und e _ heq
      cases hx with
      | slice _ _ a cap vals hk hc hv hz =>
       rw [hk1,hk2]
       refine ⟨q,?_,e2⟩
       simp only [Sem.run_bind,run_underlying ue,Result.andThen_ok]
       exact e1
    ·cases h
   ·rename_i e l off hk1 hk2
    cases hte:C.ty e with
    | none => simp [sizeIs,hte] at h
    | some ei =>
     simp only [sizeIs,hte,Option.map_some] at h
     split at h
     ·rename_i n e' cells fz hsz ho
      split at h
      ·rename_i hlt
       cases h
       cases hx with
       | ptr _ _ L hl =>
        have hob:=(hr.obj l L hl).2.2.2
        rw [ho] at hob
        have hsh:=mem_shape hob
        obtain ⟨c,fr,_,_,_,hfull,_⟩:=hob
        obtain ⟨hdl,htot⟩:=hfull rfl
        rw [hk1,hk2]
        refine ⟨.pointer (some ⟨L.blk,L.dl + off,none⟩),?_,.ptr l off L hl⟩
        show (Conv.unsafePointer s d _).run C.P w = _
        unfold Conv.unsafePointer
        rw [hk1] at us; rw [hk2] at ud
        simp only [Sem.run_bind,run_underlying us,run_underlying ud,Result.andThen_ok,run_seenAt (C:=C) (a:=⟨L.blk,L.dl + off,none⟩) hsh,cellsIn,run_shape,hsh,run_size hC hte,Sem.run_pure]
        have e1:¬ ei.size = 0:=by rw [Option.some.injEq] at hsz; omega
        have e2:¬ (L.dl + off ≥ L.tot):=by omega
        simp [e1,e2]
      ·cases h
     ·cases h
   ·rename_i u' l off hk1 hk2
    split at h
    ·rename_i e cells fz ho
     split at h
     ·rename_i hcond
      obtain ⟨hsz,hpos,hlies⟩:=hcond
      cases h
      cases hx with
      | ptr _ _ L hl =>
       have hob:=(hr.obj l L hl).2.2.2
       rw [ho] at hob
       have hsh:=mem_shape hob
       obtain ⟨c,fr,_,_,_,hfull,_⟩:=hob
       obtain ⟨hdl,htot⟩:=hfull rfl
       cases hte:C.ty u' with
       | none => simp [sizeIs,hte] at hsz
       | some ui =>
        rw [hk1,hk2]
        refine ⟨.pointer (some ⟨L.blk,L.dl + off,none⟩),?_,.ptr l off L hl⟩
        show (Conv.unsafePointer s d _).run C.P w = _
        unfold Conv.unsafePointer
        rw [hk1] at us; rw [hk2] at ud
        rw [hdl,Nat.zero_add] at *
        have hv:(variablesAt ⟨L.blk,off,none⟩ u' 1).run C.P w = .ok true w:=by
         simp [variablesAt,hsh,← htot,hlies]
        simp only [Sem.run_bind,run_underlying us,run_underlying ud,Result.andThen_ok,run_seenAt (C:=C) (a:=⟨L.blk,off,none⟩) hsh,run_size hC hte,hv]
        simp
     ·cases h
    ·cases h
   ·cases h
end
end Go.AE
