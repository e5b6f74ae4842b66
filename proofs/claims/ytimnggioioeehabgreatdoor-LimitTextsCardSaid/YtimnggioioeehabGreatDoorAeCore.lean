/- An abstract evaluator of loaded Go programs over pure values: slices as lists, structs as lists of cells, mutable objects in frames. Definitions alone. -/
import GoSem.Dispatch
namespace Go.AE

/-- Where an object lies: in slot t of the frame l levels out, or for good. -/
inductive Loc where
  | fr (l t : Nat)
  | gl (i : Nat)
  deriving Inhabited, DecidableEq

/-- Abstract values. 'ptr c v off': into the object at c, as long as that is of version v; 'eptr': into element i of an array object; 'cptr': to cells that are never written again; 'sl': a slice by its content; 'bmark': a cell in an object of type t that holds nil or its own address; 'ez': an empty slice without room; 'rsl': a slice over an array object. -/
inductive AV where
  | undef
  | bool (b : Bool)
  | int (k : IntKind) (n : Int)
  | str (s : ByteArray)
  | nilp
  | bmark (t : TypeId)
  | ptr (c : Loc) (v off : Nat)
  | eptr (c : Loc) (v i j : Nat)
  | cptr (cs : List AV)
  | sl (nl : Bool) (sz : Nat) (xs : List (List AV))
  | ez
  | rsl (c : Loc) (v off len : Nat)
  | nilm
  | mp (c : Loc) (v : Nat)
  | fn (f : Fn) (first caps : List AV)
  | nilf
  | ifc (t : TypeId) (v : AV)
  | nili
  | agg (cs : List AV)
  | tup (vs : List AV)
  deriving Inhabited

/-- What an object holds. -/
inductive Con where
  | gone
  | cells (cs : List AV)
  | arr (nl : Bool) (sz : Nat) (xs : List (List AV))
  | frz (nl : Bool) (sz : Nat) (xs : List (List AV))
  | map (es : List (AV × AV))
  | iter (s : ByteArray) (pos : Nat)
  deriving Inhabited

structure AObj where
  ver : Nat
  con : Con
  deriving Inhabited

abbrev Frame := Nat → AObj

structure Heap where
  cur : Frame
  out : List Frame
  glob : List AObj

structure St where
  tmps : Nat → AV
  hp : Heap

def mapO {α β : Type} (f : α → Option β) : List α → Option (List β)
  | [] => some []
  | a :: r => (f a).bind fun x => (mapO f r).map fun y => x :: y

def foldO {α β : Type} (f : α → β → Option α) : α → List β → Option α
  | a, [] => some a
  | a, b :: r => (f a b).bind fun a => foldO f a r

def upd {α : Type} (f : Nat → α) (t : Nat) (x : α) : Nat → α := fun s => if s = t then x else f s

namespace Loc
def push : Loc → Option Loc
  | fr l t => some (fr (l + 1) t)
  | c => some c
def pop : Loc → Option Loc
  | fr 0 _ => none
  | fr (l + 1) t => some (fr l t)
  | c => some c
/-- As the frame that is n levels further in sees it. -/
def up (n : Nat) : Loc → Option Loc
  | fr l t => some (fr (l + n) t)
  | c => some c
def down (n : Nat) : Loc → Option Loc
  | fr l t => if n ≤ l then some (fr (l - n) t) else none
  | c => some c
def free : Loc → Option Loc
  | fr _ _ => none
  | c => some c
/-- The type of the elements of an array there, if it is told by the slot. -/
def bt : Loc → Option TypeId
  | fr _ t => if t < 1000000 then none else some (t % 10000)
  | gl _ => none
/-- Is it in the frame that runs? -/
def here : Loc → Bool
  | fr 0 _ => true
  | _ => false
end Loc

namespace AV
/-- Turns every pointer in a value. -/
def mapLoc (g : Loc → Option Loc) : AV → Option AV
  | ptr c v off => (g c).map fun c => ptr c v off
  | eptr c v i j => (g c).map fun c => eptr c v i j
  | rsl c v off len => (g c).map fun c => rsl c v off len
  | mp c v => (g c).map fun c => mp c v
  | a => some a

mutual
/-- A value with h done to each pointer in it. -/
def trav (h : AV → Option AV) : AV → Option AV
  | .ptr c v off => h (.ptr c v off)
  | .eptr c v i j => h (.eptr c v i j)
  | .rsl c v off len => h (.rsl c v off len)
  | .mp c v => h (.mp c v)
  | .cptr cs => (travL h cs).map .cptr
  | .sl nl sz xs => (travLL h xs).map (.sl nl sz)
  | .fn f first caps => (travL h first).bind fun x => (travL h caps).map fun y => .fn f x y
  | .ifc t v => (trav h v).map (.ifc t)
  | .agg cs => (travL h cs).map .agg
  | .tup cs => (travL h cs).map .tup
  | .undef => some .undef
  | .bool b => some (.bool b)
  | .int k n => some (.int k n)
  | .str s => some (.str s)
  | .nilp => some .nilp
  | .bmark t => some (.bmark t)
  | .ez => some .ez
  | .nilm => some .nilm
  | .nilf => some .nilf
  | .nili => some .nili
def travL (h : AV → Option AV) : List AV → Option (List AV)
  | [] => some []
  | a :: r => (trav h a).bind fun x => (travL h r).map fun y => x :: y
def travLL (h : AV → Option AV) : List (List AV) → Option (List (List AV))
  | [] => some []
  | a :: r => (travL h a).bind fun x => (travLL h r).map fun y => x :: y
end

mutual
/-- A constant of the program. -/
def ofV : Value → AV
  | .bool b => .bool b
  | .int k n => .int k n
  | .string s => .str s
  | .pointer none => .nilp
  | .slice none 0 0 => .sl true 0 []
  | .map none => .nilm
  | .nilFunc => .nilf
  | .nilIface => .nili
  | .agg cs => .agg (ofA cs)
  | .tuple vs => .tup (ofA vs)
  | _ => .undef
def ofA : Array Value → List AV
  | ⟨l⟩ => ofL l
def ofL : List Value → List AV
  | [] => []
  | v :: r => ofV v :: ofL r
end

/-- The cells of a value. -/
def cells : AV → Option (List AV)
  | agg cs => some cs
  | undef | tup _ | bmark _ => none
  | a => some [a]
/-- What one cell can hold. -/
def one : AV → Bool
  | agg _ | tup _ | undef | bmark _ => false
  | _ => true
end AV

namespace Heap
def obj (h : Heap) : Loc → AObj
  | .fr 0 t => h.cur t
  | .fr (l + 1) t => match h.out[l]? with | some f => f t | none => ⟨0, .gone⟩
  | .gl i => (h.glob[i]?).getD ⟨0, .gone⟩
def setObj (h : Heap) (c : Loc) (o : AObj) : Heap :=
  match c with
  | .fr 0 t => { h with cur := upd h.cur t o }
  | .fr (l + 1) t => { h with out := h.out.modify l fun f => upd f t o }
  | .gl i => { h with glob := h.glob.set i o }
/-- What the object at c holds, if it is of version v still. -/
def con (h : Heap) (c : Loc) (v : Nat) : Con := if (h.obj c).ver = v then (h.obj c).con else .gone
/-- A new object, in slot t of the frame or for good: where, and its version. -/
def alloc (h : Heap) (g : Bool) (t : Nat) (o : Con) : Loc × Nat × Heap :=
  if g then (.gl h.glob.length, 0, { h with glob := h.glob ++ [⟨0, o⟩] })
  else (.fr 0 t, (h.cur t).ver + 1, { h with cur := upd h.cur t ⟨(h.cur t).ver + 1, o⟩ })
end Heap

namespace St
def ev (tm : Nat → AV) : Operand → AV
  | .tmp t => tm t
  | .const v => .ofV v
  | .func f => .fn (.func f) [] []
  | .global _ => .undef
end St
def putT (tm : Nat → AV) (d : Option Nat) (v : AV) : Nat → AV := match d with | some t => upd tm t v | none => tm

/-- What comes out of an object, as the running frame sees it; what goes in, as the object's frame sees it. -/
def Loc.from : Loc → AV → Option AV
  | .fr l _, a => a.trav (AV.mapLoc (Loc.up l))
  | .gl _, a => some a
def Loc.into : Loc → AV → Option AV
  | .fr l _, a => a.trav (AV.mapLoc (Loc.down l))
  | .gl _, a => a.trav (AV.mapLoc Loc.free)

section
variable (P : Program)
def size? (t : TypeId) : Option Nat := (P.info? t).map (·.size)
def isAgg? (t : TypeId) : Option Bool := (P.underlying t).map fun | .struct _ | .array _ _ => true | _ => false
def zero? (t : TypeId) : Option AV := (P.info? t).bind fun i => i.zero.map .ofV
end

def zeroCells? (P : Program) (t : TypeId) : Option (List AV) := (zero? P t).bind AV.cells

/-- n cells from 'off' on. -/
def cut (cs : List AV) (off n : Nat) : Option (List AV) := if off + n ≤ cs.length then some ((cs.drop off).take n) else none

def readAs (agg : Bool) (n : Nat) (cs : List AV) (off : Nat) : Option AV :=
  if agg then (cut cs off n).map .agg else cs[off]?

def loadAt (P : Program) (st : Heap) (t : TypeId) (a : AV) : Option AV :=
  (isAgg? P t).bind fun ag => (size? P t).bind fun n =>
  match a with
  | .ptr c v off => match st.con c v with
    | .cells cs => (readAs ag n cs off).bind c.from
    | _ => none
  | .eptr c v i j => match st.con c v with
    | .arr _ _ xs | .frz _ _ xs => (xs[i]?).bind fun cs => (readAs ag n cs j).bind c.from
    | _ => none
  | .cptr cs => readAs ag n cs 0
  | _ => none

def writeAll (cs : List AV) (off : Nat) : List AV → List AV
  | [] => cs
  | v :: r => writeAll (cs.set off v) (off + 1) r

def intoAll (c : Loc) : List AV → Option (List AV) := mapO c.into

/-- Cells with others written over them. -/
def writeOver (cs : List AV) (off n : Nat) (vs : List AV) : Option (List AV) :=
  if vs.length = n ∧ off + n ≤ cs.length ∧ vs.all AV.one then some (writeAll cs off vs) else none

def storeAt (P : Program) (ro : Bool) (st : Heap) (t : TypeId) (a x : AV) : Option Heap :=
  (size? P t).bind fun n =>
  match a with
  | .ptr c v off =>
    if ro && !c.here then none else
    match st.con c v with
    | .cells cs => x.cells.bind fun vs => (intoAll c vs).bind fun vs => (writeOver cs off n vs).map fun cs => st.setObj c ⟨v, .cells cs⟩
    | _ => none
  | .eptr c v i j =>
    if ro && !c.here then none else
    match st.con c v with
    | .arr nl sz xs => if c.bt.isSome then none else (xs[i]?).bind fun cs => x.cells.bind fun vs => (intoAll c vs).bind fun vs => (writeOver cs j n vs).map fun cs => st.setObj c ⟨v, .arr nl sz (xs.set i cs)⟩
    | _ => none
  | _ => none

def fieldAddr (P : Program) (t : TypeId) (a : AV) (f : Nat) : Option AV :=
  match P.underlying t with
  | some (.struct fs) => (fs[f]?).bind fun fd => (size? P fd.type).bind fun n =>
    if n = 0 then none else
    match a with
    | .ptr c v off => some (.ptr c v (off + fd.offset))
    | .eptr c v i j => some (.eptr c v i (j + fd.offset))
    | .cptr cs => some (.cptr (cs.drop fd.offset))
    | _ => none
  | _ => none

def fieldOf (P : Program) (t : TypeId) (a : AV) (f : Nat) : Option AV :=
  match P.underlying t, a with
  | some (.struct fs), .agg cs => (fs[f]?).bind fun fd => (isAgg? P fd.type).bind fun ag => (size? P fd.type).bind fun n => readAs ag n cs fd.offset
  | _, _ => none

def aInt : AV → Option Int
  | .int _ n => some n
  | _ => none
def aBool : AV → Option Bool
  | .bool b => some b
  | _ => none

def indexAddr (P : Program) (st : Heap) (t : TypeId) (x ix : AV) : Option AV :=
  (aInt ix).bind fun i =>
  match P.underlying t, x with
  | some (.slice e), .sl _ sz xs => (size? P e).bind fun n => if n = sz ∧ 0 ≤ i then (xs[i.toNat]?).map .cptr else none
  | some (.slice e), .rsl c v off len => (size? P e).bind fun n => match st.con c v with
    | .arr _ sz xs | .frz _ sz xs => if n = sz ∧ 0 ≤ i ∧ i < len ∧ off + i.toNat < xs.length then some (.eptr c v (off + i.toNat) 0) else none
    | _ => none
  | some (.array len e), .ptr c v off => (size? P e).bind fun n => if 0 ≤ i ∧ i < len then some (.ptr c v (off + i.toNat * n)) else none
  | _, _ => none

def indexOf (P : Program) (t : TypeId) (x ix : AV) : Option AV :=
  (aInt ix).bind fun i =>
  match P.underlying t, x with
  | some .string, .str s => if 0 ≤ i then (s[i.toNat]?).map fun b => .int .u8 b.toNat else none
  | some (.array len e), .agg cs => if 0 ≤ i ∧ i < len then (isAgg? P e).bind fun ag => (size? P e).bind fun n => readAs ag n cs (i.toNat * n) else none
  | _, _ => none

def optInt (d : Int) : Option AV → Option Int
  | none => some d
  | some a => aInt a

def sliceOf (P : Program) (t : TypeId) (x : AV) (lo hi mx : Option AV) : Option AV :=
  match P.underlying t, x, mx with
  | some .string, .str s, none => (optInt 0 lo).bind fun l => (optInt s.size hi).bind fun h =>
    if 0 ≤ l ∧ l ≤ h ∧ h ≤ s.size then some (.str (s.extract l.toNat h.toNat)) else none
  | some (.slice e), .sl nl sz xs, none => (size? P e).bind fun n => (optInt 0 lo).bind fun l => (optInt xs.length hi).bind fun h =>
    if n = sz ∧ 0 ≤ l ∧ l ≤ h ∧ h ≤ xs.length then some (.sl nl sz ((xs.drop l.toNat).take (h - l).toNat)) else none
  | some (.slice e), .sl nl sz _, some m => (size? P e).bind fun _ => (optInt 0 lo).bind fun l => (optInt 1 hi).bind fun h => (aInt m).bind fun m =>
    if l = 0 ∧ h = 0 ∧ m = 0 then some (if nl then .sl true sz [] else .ez) else none
  | some (.slice e), .rsl c v off len, none => (size? P e).bind fun _ => (optInt 0 lo).bind fun l => (optInt len hi).bind fun h =>
    if l = 0 ∧ 0 < h ∧ h ≤ len then some (.rsl c v off h.toNat) else none
  | _, _, _ => none

def binScal (op : BinOp) (x y : AV) : Option AV :=
  match x, y with
  | .int k a, .int k' b =>
    match op with
    | .shl => if b < 0 then none else some (.int k (k.wrap (a * 2 ^ (min b.toNat k.bits))))
    | .shr => if b < 0 then none else some (.int k (a.fdiv (2 ^ (min b.toNat k.bits))))
    | .add => if k ≠ k' then none else some (.int k (k.wrap (a + b)))
    | .sub => if k ≠ k' then none else some (.int k (k.wrap (a - b)))
    | .mul => if k ≠ k' then none else some (.int k (k.wrap (a * b)))
    | .quo => if k ≠ k' then none else if b = 0 then none else some (.int k (k.wrap (a.tdiv b)))
    | .rem => if k ≠ k' then none else if b = 0 then none else some (.int k (a.tmod b))
    | .and => if k ≠ k' then none else some (.int k (k.wrap (BitVec.ofInt k.bits a &&& BitVec.ofInt k.bits b).toNat))
    | .or => if k ≠ k' then none else some (.int k (k.wrap (BitVec.ofInt k.bits a ||| BitVec.ofInt k.bits b).toNat))
    | .xor => if k ≠ k' then none else some (.int k (k.wrap (BitVec.ofInt k.bits a ^^^ BitVec.ofInt k.bits b).toNat))
    | .andNot => if k ≠ k' then none else some (.int k (k.wrap (BitVec.ofInt k.bits a &&& ~~~ (BitVec.ofInt k.bits b)).toNat))
    | .eql => if k ≠ k' then none else some (.bool (a == b))
    | .neq => if k ≠ k' then none else some (.bool (a != b))
    | .lss => if k ≠ k' then none else some (.bool (decide (a < b)))
    | .leq => if k ≠ k' then none else some (.bool (decide (a ≤ b)))
    | .gtr => if k ≠ k' then none else some (.bool (decide (a > b)))
    | .geq => if k ≠ k' then none else some (.bool (decide (a ≥ b)))
  | .str a, .str b =>
    match op with
    | .add => if ((a.size + b.size : Nat) : Int) > IntKind.i64.max then none else some (.str (a ++ b))
    | .eql => some (.bool (a.toList == b.toList))
    | .neq => some (.bool !(a.toList == b.toList))
    | .lss => some (.bool (Op.bytesLess a.toList b.toList))
    | .leq => some (.bool (Op.bytesLess a.toList b.toList || a.toList == b.toList))
    | .gtr => some (.bool !(Op.bytesLess a.toList b.toList || a.toList == b.toList))
    | .geq => some (.bool !(Op.bytesLess a.toList b.toList))
    | _ => none
  | _, _ => none

/-- What a prover chooses: none of it can make a false result true. 'mu': this operation gives a slice over an object; 'frz': this move turns such a slice into its content, for good; 'glob': this object is made for good. -/
structure Pol where
  intr : FuncId → Option (List AV → Option AV)
  mu : FuncId → Nat → Nat → Bool
  frz : FuncId → Nat → Nat → Bool
  glob : FuncId → Nat → Nat → Bool
  /-- Where an array that is made lies. -/
  sl : FuncId → Nat → Nat → Option Nat := fun _ _ _ => none
  /-- A load that finds its address in the own frame. -/
  own : FuncId → Nat → Nat → Bool := fun _ _ _ => false
  /-- A call that is handed nothing of the own frame. -/
  away : FuncId → Nat → Nat → Bool := fun _ _ _ => false
  /-- Of a new object: fields that are to be slices over arrays (where these lie), or marks. -/
  fld : FuncId → Nat → Nat → List (Nat × Option Nat) := fun _ _ _ => []
  /-- Functions that are known by what they do to the heap. -/
  intrH : FuncId → Option (List AV → Heap → Option (AV × Heap)) := fun _ => none

/-- Is a value of such a type nil? -/
def isNil : TypeDesc → AV → Option Bool
  | .slice _, .sl nl _ _ => some nl
  | .slice _, .ez => some false
  | .pointer _, .nilp => some true
  | .pointer _, .ptr _ _ _ | .pointer _, .eptr _ _ _ _ | .pointer _, .cptr _ => some false
  | .map _ _, .nilm => some true
  | .map _ _, .mp _ _ => some false
  | .interface _, .nili => some true
  | .interface _, .ifc _ _ => some false
  | .func _ _ _, .nilf => some true
  | .func _ _ _, .fn _ _ _ => some false
  | _, _ => none

/-- Are these equal? Scalars, and structs of these. -/
def eqFields (P : Program) : Nat → TypeId → AV → AV → Option Bool
  | 0, _, _, _ => none
  | d + 1, t, x, y =>
    match P.underlying t, x, y with
    | some (.struct fs), .agg cs, .agg ds =>
      if P.stoodInHeld t then none else
      fs.toList.foldr (fun fd r => (isAgg? P fd.type).bind fun ag => (size? P fd.type).bind fun n =>
        (readAs ag n cs fd.offset).bind fun a => (readAs ag n ds fd.offset).bind fun b =>
        if fd.name = "_" then r else (eqFields P d fd.type a b).bind fun e => r.map fun e2 => e && e2) (some true)
    | some (.int _), .int k1 a, .int k2 b => if k1 = k2 then some (a == b) else none
    | some .bool, .bool a, .bool b => some (a == b)
    | some .string, .str a, .str b => some (a == b)
    | _, _, _ => none

def negIf (op : BinOp) (b : Bool) : Option AV :=
  match op with
  | .eql => some (.bool b)
  | .neq => some (.bool !b)
  | _ => none

def binOf (P : Program) (op : BinOp) (t : TypeId) (x y : AV) (xc yc : Bool) : Option AV :=
  match x, y with
  | .int k a, .int k' b => binScal op (.int k a) (.int k' b)
  | .str a, .str b => binScal op (.str a) (.str b)
  | .bool a, .bool b => (match P.underlying t with | some .bool => negIf op (a == b) | _ => none)
  | .agg cs, .agg ds => if P.eqGuardType P.depth t then none else (eqFields P 20 t (.agg cs) (.agg ds)).bind (negIf op)
  | x, y => (P.underlying t).bind fun d => (isNil d x).bind fun a => (isNil d y).bind fun b =>
    if (a || b) && (xc || yc || !(a && b)) then negIf op (a && b) else none

def unOf (op : UnOp) (x : AV) : Option AV :=
  match op, x with
  | .neg, .int k n => some (.int k (k.wrap (0 - n)))
  | .xor, .int k n => some (.int k (k.wrap (BitVec.ofInt k.bits (if k.signed then -1 else k.max) ^^^ BitVec.ofInt k.bits n).toNat))
  | .not, .bool b => some (.bool !b)
  | _, _ => none

/-- The byte of a row of one cell. -/
def byteOf : List AV → Option UInt8
  | [.int .u8 n] => if 0 ≤ n ∧ n < 256 then some n.toNat.toUInt8 else none
  | _ => none
def convOf (P : Program) (s d : TypeId) (x : AV) : Option AV :=
  (P.underlying s).bind fun ds => (P.underlying d).bind fun dd =>
  match dd, x with
  | .slice e, .str b => match ds, P.underlying e with
    | .string, some (.int .u8) => some (.sl false 1 (b.data.toList.map fun x => [.int .u8 x.toNat]))
    | _, _ => none
  | .string, .sl _ _ xs => match ds with
    | .slice e => match P.underlying e with
      | some (.int .u8) => (mapO byteOf xs).map fun l => .str ⟨⟨l⟩⟩
      | _ => none
    | _ => none
  | .string, .ez => match ds with
    | .slice e => match P.underlying e with
      | some (.int .u8) => some (.str ⟨#[]⟩)
      | _ => none
    | _ => none
  | .int k, .int _ n => some (.int k (k.wrap n))
  | .string, .int _ n => some (.str (Utf8.encode n))
  | .string, .str b => some (.str b)
  | _, _ => none

def lenOf : AV → Option Nat
  | .sl _ _ xs => some xs.length
  | .ez => some 0
  | .rsl _ _ _ len => some len
  | _ => none

/-- What 'len' gives. -/
def lenAll (st : Heap) : TypeDesc → AV → Option Int
  | .map _ _, .mp m v => match st.con m v with
    | .map es => some es.length
    | _ => none
  | .map _ _, .nilm => some 0
  | .string, .str b => some b.size
  | .slice _, x => (lenOf x).map Int.ofNat
  | _, _ => none

/-- The elements of a slice or a string. -/
def elemsOf (st : Heap) : AV → Option (List (List AV))
  | .sl _ _ xs => some xs
  | .ez => some []
  | .rsl c v off len => match st.con c v with
    | .arr _ _ xs | .frz _ _ xs => if off + len ≤ xs.length then mapO (mapO c.from) ((xs.drop off).take len) else none
    | _ => none
  | .str b => some (b.data.toList.map fun x => [.int .u8 x.toNat])
  | _ => none

def roomy (n bytes : Nat) : Bool := decide ((2 * n + 1024) * bytes ≤ 2 ^ 47) && decide (n ≤ 2 ^ 47)

def intoAllL (c : Loc) : List (List AV) → Option (List (List AV)) := mapO (intoAll c)

/-- A new slice: by its content, or over a new object. -/
def newSlice (st : Heap) (mu glob : Bool) (t sz : Nat) (xs : List (List AV)) : Option (AV × Heap) :=
  if mu then
    if sz = 0 then none else
    let r := st.alloc glob t .gone
    if r.1.bt.isSome then none else
    (intoAllL r.1 xs).map fun ys => (.rsl r.1 r.2.1 0 xs.length, r.2.2.setObj r.1 ⟨r.2.1, .arr false sz ys⟩)
  else some (.sl false sz xs, st)

/-- The second operand is no length. -/
def noInt (P : Program) : Option TypeId → Bool
  | none => true
  | some t => match P.underlying t with
    | some (.int _) | none => false
    | some _ => true
def appendOf (P : Program) (ro : Bool) (st : Heap) (mu glob : Bool) (slot : Nat) (t : TypeId) (xt : Option TypeId) (x y : AV) : Option (AV × Heap) :=
  if !(noInt P xt) then none else
  match P.underlying t with
  | some (.slice e) => (P.info? e).bind fun info => (zeroCells? P e).bind fun z =>
    if z.length ≠ info.size ∨ info.size = 0 then none else
    (elemsOf st y).bind fun ys =>
    if !(ys.all fun l => l.length == info.size && l.all AV.one) then none else
    match x with
    | .sl true sz [] => if ys.isEmpty then some (.sl true sz [], st) else if roomy ys.length info.bytes then newSlice st mu glob slot info.size ys else none
    | .ez => if ys.isEmpty then some (.ez, st) else if roomy ys.length info.bytes then newSlice st mu glob slot info.size ys else none
    | .rsl c v off len =>
      if ro && !c.here then none else
      match st.con c v with
      | .arr nl sz xs => if (c.bt == none || c.bt == some e) = true ∧ off = 0 ∧ len = xs.length ∧ (sz = info.size ∨ (xs = [] ∧ sz = 0)) ∧ roomy (xs.length + ys.length) info.bytes then
          (intoAllL c ys).map fun ys => (.rsl c (v + 1) 0 (len + ys.length), st.setObj c ⟨v + 1, .arr (nl && ys.isEmpty) (if nl && ys.isEmpty then sz else info.size) (xs ++ ys)⟩) else none
      | _ => none
    | _ => none
  | _ => none

/-- Cells with the parts of a literal written over them. -/
def fillA (place : Nat → Option (Nat × Nat)) : List AV → List (Nat × AV) → Option (List AV)
  | cs, [] => some cs
  | cs, (i, x) :: r => (place i).bind fun p => x.cells.bind fun vs => if vs.length = p.2 ∧ p.1 + p.2 ≤ cs.length then fillA place (writeAll cs p.1 vs) r else none
def placesOf (P : Program) : List Field → Option (List (Nat × Nat))
  | [] => some []
  | f :: r => (size? P f.type).bind fun n => (placesOf P r).map fun l => (f.offset, n) :: l

def buildOf (P : Program) (t : TypeId) (parts : List (Nat × AV)) : Option AV :=
  (zeroCells? P t).bind fun z =>
  match P.underlying t with
  | some (.struct fs) => (placesOf P fs.toList).bind fun pl => (fillA (fun i => pl[i]?) z parts).map .agg
  | some (.array _ e) => (size? P e).bind fun n => (fillA (fun i => some (i * n, n)) z parts).map .agg
  | _ => none

def fillS (n : Nat) : List (List AV) → List (Nat × AV) → Option (List (List AV))
  | xs, [] => some xs
  | xs, (i, x) :: r => x.cells.bind fun vs => if vs.length = n ∧ i < xs.length then fillS n (xs.set i vs) r else none
def buildSliceOf (P : Program) (t : TypeId) (len : Nat) (parts : List (Nat × AV)) : Option (Nat × List (List AV)) :=
  match P.underlying t with
  | some (.slice e) => (size? P e).bind fun n => (zeroCells? P e).bind fun z =>
    if len * n > 2 ^ 24 ∨ n = 0 ∨ z.length ≠ n then none else (fillS n (List.replicate len z) parts).map fun xs => (n, xs)
  | _ => none

def makeSliceOf (P : Program) (t : TypeId) (len cap : AV) : Option (Nat × List (List AV)) :=
  match P.underlying t with
  | some (.slice e) => (P.info? e).bind fun info => (zeroCells? P e).bind fun z => (aInt len).bind fun l => (aInt cap).bind fun c =>
    if 0 ≤ l ∧ l ≤ c ∧ c * info.bytes ≤ 2 ^ 47 ∧ c ≤ 2 ^ 47 ∧ z.length = info.size ∧ 0 < info.size then some (info.size, List.replicate l.toNat z) else none
  | _ => none

def keyEq : AV → AV → Option Bool
  | .int k a, .int k2 b => if k = k2 then some (a == b) else none
  | .str a, .str b => some (a == b)
  | .bool a, .bool b => some (a == b)
  | _, _ => none
def mapFind (k : AV) : List (AV × AV) → Option (Option AV)
  | [] => some none
  | e :: r => (keyEq k e.1).bind fun b => if b then some (some e.2) else mapFind k r
def mapPut (k v : AV) : List (AV × AV) → Option (List (AV × AV))
  | [] => some [(k, v)]
  | e :: r => (keyEq k e.1).bind fun b => if b then some ((k, v) :: r) else (mapPut k v r).map fun l => e :: l
def mapDel (k : AV) : List (AV × AV) → Option (List (AV × AV))
  | [] => some []
  | e :: r => (keyEq k e.1).bind fun b => if b then some r else (mapDel k r).map fun l => e :: l
def isKey : AV → Bool
  | .int _ _ | .str _ | .bool _ => true
  | _ => false
/-- A key of that type. -/
def keyFits (P : Program) (t : TypeId) (k : AV) : Bool :=
  match P.underlying t, k with
  | some (.int _), .int _ _ | some .string, .str _ | some .bool, .bool _ => true
  | _, _ => false

/-- A method of a type's own. -/
def methodOf (P : Program) (t : TypeId) (name : String) : Option FuncId :=
  (P.info? t).bind fun i => (i.methods.find? (·.name == name)).bind fun m =>
  if m.path.isEmpty then m.func.bind fun f =>
    match P.underlying t, f.2 with
    | some (.pointer _), true => some f.1
    | some (.pointer _), false => none
    | some _, false => some f.1
    | _, _ => none
  else none

def resultsOf (P : Program) (st : St) : List ResultVar → Option (List AV)
  | [] => some []
  | .tmp t :: r => (resultsOf P st r).map fun l => st.tmps t :: l
  | .cell a t :: r => (loadAt P st.hp t (st.tmps a)).bind fun v => (resultsOf P st r).map fun l => v :: l

def oneOf : List AV → AV
  | [a] => a
  | l => .tup l

def isConst : Operand → Bool
  | .const _ => true
  | _ => false

/-- Who is called with what. -/
inductive Who where
  | func (f : FuncId) (args : List AV)
  | blt (b : Builtin)

def whoOf (P : Program) (ρ : Operand → AV) (c : Call) : Option Who :=
  match c.callee with
  | .builtin b => some (.blt b)
  | .value f => match ρ f with
    | .fn (.func f) first caps => some (.func f (first ++ c.args.toList.map ρ ++ caps))
    | _ => none
  | .invoke r name => match ρ r with
    | .ifc t v => (methodOf P t name).map fun f => .func f (v :: c.args.toList.map ρ)
    | _ => none

def extreme (mx : Bool) : AV → AV → Option AV
  | .int k x, .int _ y => some (.int k (if mx then (if y > x then y else x) else (if y < x then y else x)))
  | _, _ => none

/-- What a value of a frame that is left is to its caller: array objects of that frame by their content. -/
def retLeaf (cur : Frame) (deep : AV → Option AV) : AV → Option AV
  | .rsl (.fr 0 t) v off len =>
    if (cur t).ver = v then (match (cur t).con with
      | .arr nl sz xs | .frz nl sz xs => if off + len ≤ xs.length then (mapO (mapO deep) ((xs.drop off).take len)).map (.sl nl sz) else none
      | _ => none) else none
  | a => a.mapLoc Loc.pop
def retV (cur : Frame) : Nat → AV → Option AV
  | 0, a => a.trav (AV.mapLoc Loc.pop)
  | n + 1, a => a.trav (retLeaf cur (retV cur n))

/-- The results of a call, where the caller goes on to write a slice among them: one array object of the callee's is the caller's from here on. -/
def moveAll (cur : Frame) (st : Heap) (slot : Nat) : List AV → Option (List AV × Heap)
  | [] => some ([], st)
  | a :: r => match a with
    | .rsl (.fr 0 t) v off len =>
      if (cur t).ver = v ∧ off = 0 then (match (cur t).con with
        | .arr nl sz xs => if len = xs.length ∧ (Loc.fr 0 slot).bt = none ∧ (Loc.fr 0 t).bt = none then
            (mapO (mapO (AV.trav (AV.mapLoc Loc.pop))) xs).bind fun ys => (mapO (AV.trav (AV.mapLoc Loc.pop)) r).map fun bs =>
              let q := st.alloc false slot (.arr nl sz ys)
              (.rsl q.1 q.2.1 0 len :: bs, q.2.2) else none
        | _ => none)
      else none
    | a => (a.trav (AV.mapLoc Loc.pop)).bind fun b => (moveAll cur st slot r).map fun q => (b :: q.1, q.2)

/-- A call: what it gives, as the frame that it leaves sees it; that frame, the others, what is there for good. -/
abbrev CallF := Bool → FuncId → List AV → List Frame → List AObj → Option (AV × Heap)

section
variable (P : Program) (pol : Pol) (call : CallF) (f : FuncId) (ro : Bool)

def bltOf (ρ : Operand → AV) (st : Heap) (mu glob draw : Bool) (slot : Nat) (b : Builtin) (c : Call) : Option (AV × Heap) :=
  match b, c.args.toList.map ρ with
  | .len, [x] => (c.argTypes[0]?).bind fun t => (P.underlying t).bind fun d => (lenAll st d x).map fun n => (.int .i64 n, st)
  | .min, x :: r => (foldO (extreme false) x r).map fun v => (v, st)
  | .max, x :: r => (foldO (extreme true) x r).map fun v => (v, st)
  | .append, [x, y] => if draw then none else (c.argTypes[0]?).bind fun t => appendOf P ro st mu glob slot t c.argTypes[1]? x y
  | .delete, [m, k] => (c.argTypes[0]?).bind fun t => (P.underlying t).bind fun d => match d, m with
    | .map kt _, .mp l v => if draw || (ro && !l.here) || !keyFits P kt k then none else match st.con l v with
      | .map es => (mapDel k es).map fun es => (.tup [], st.setObj l ⟨v, .map es⟩)
      | _ => none
    | _, _ => none
  | _, _ => none

def Loc.far : Loc → Option Loc
  | .fr 0 _ => none
  | c => some c
/-- An address in the own frame, or cells by their content. -/
def ownAddr : AV → Bool
  | .ptr c _ _ | .eptr c _ _ _ => c.here
  | .cptr _ => true
  | _ => false
def hide (h : Heap) : Heap := { h with cur := fun _ => ⟨0, .gone⟩ }
def slotOf (o : Oper) : Nat := o.dst.getD 0
def slotAt (rid i : Nat) (o : Oper) : Nat := (pol.sl f rid i).getD (slotOf o)

/-- What a call gives, to the caller. -/
def landOf (st : Heap) (mu draw : Bool) (slot : Nat) (r : AV × Heap) : Option (AV × Heap) :=
  if draw then (retV r.2.cur 3 r.1).map fun v => (v, st) else
  match r.2.out with
  | cur :: out =>
    let st1 : Heap := { cur, out, glob := r.2.glob }
    if mu then (match r.1 with
      | .tup vs => (moveAll r.2.cur st1 (slot + 1000) vs).map fun q => (.tup q.1, q.2)
      | a => (moveAll r.2.cur st1 (slot + 1000) [a]).bind fun q => match q.1 with
        | [b] => some (b, q.2)
        | _ => none)
    else (retV r.2.cur 3 r.1).map fun v => (v, st1)
  | [] => none

/-- A call for which the own frame is out of sight. -/
def awayOf (g : FuncId) (args : List AV) (st : Heap) : Option (AV × Heap) :=
  (AV.travL (AV.mapLoc Loc.far) args).bind fun as => (AV.travL (AV.mapLoc Loc.push) as).bind fun as =>
    (call ro g as ((hide st).cur :: (hide st).out) (hide st).glob).bind fun r => (landOf (hide st) false false 0 r).bind fun q => (q.1.trav (AV.mapLoc Loc.far)).map fun y => (y, { q.2 with cur := st.cur })

/-- A new object, of type t, whose fields are seen otherwise. -/
def fldOf (t : TypeId) (c : Loc) (v : Nat) : List (Nat × Option Nat) → Heap → Option Heap
  | [], st => some st
  | (off, k) :: r, st => match st.con c v with
    | .cells cs => match cs[off]?, k with
      | some .nilp, none => fldOf t c v r (st.setObj c ⟨v, .cells (cs.set off (.bmark t))⟩)
      | some (.sl true _ []), some s => if c = .fr 0 s then none else
        let q := st.alloc false s (.arr true 0 [])
        fldOf t c v r (q.2.2.setObj c ⟨v, .cells (cs.set off (.rsl q.1 q.2.1 0 0))⟩)
      | _, _ => none
    | _ => none
/-- Fields of an object that has just been made in the own frame. -/
def fldsOf (t : TypeId) (l : List (Nat × Option Nat)) (r : AV × Heap) : Option (AV × Heap) :=
  match l, r.1 with
  | [], _ => some r
  | l, .ptr (.fr 0 s) v 0 => (fldOf t (.fr 0 s) v l r.2).map fun h => (r.1, h)
  | _, _ => none

/-- A slice over an object, by its content from here on. -/
def frzOf (ro : Bool) (st : Heap) : AV → Option (AV × Heap)
  | .rsl c v off len => if ro && !c.here then none else (elemsOf st (.rsl c v off len)).bind fun ys =>
    match st.con c v with
    | .arr nl sz xs | .frz nl sz xs => some (.sl nl sz ys, st.setObj c ⟨v, .frz nl sz xs⟩)
    | _ => none
  | a => some (a, st)
/-- One operation: what it gives, and the heap behind it. 'draw': its place in its region is open; then no object is made or written. -/
def opF (rid i : Nat) (draw : Bool) (o : Oper) (ev : Operand → AV) (st : Heap) : Option (AV × Heap) :=
  let ok (v : Option AV) : Option (AV × Heap) := v.map fun a => (a, st)
  match o.op with
  | .move x =>
    if pol.frz f rid i then
      if draw then none else
      match ev x with
      | .rsl c v off len => if ro && !c.here then none else (elemsOf st (.rsl c v off len)).bind fun ys =>
        match st.con c v with
        | .arr nl sz xs | .frz nl sz xs => some (.sl nl sz ys, st.setObj c ⟨v, .frz nl sz xs⟩)
        | _ => none
      | a => some (a, st)
    else some (ev x, st)
  | .assign x =>
    if pol.mu f rid i then
      if draw then none else
      match ev x with
      | .sl true sz [] => let r := st.alloc false (slotOf o) (.arr true sz []); some (.rsl r.1 r.2.1 0 0, r.2.2)
      | _ => none
    else some (ev x, st)
  | .pick c a b => ok ((aBool (ev c)).map fun t => if t then ev a else ev b)
  | .alloc t => if draw then none else ((zeroCells? P t).map fun cs => let r := st.alloc (pol.glob f rid i && !ro) (slotOf o) (.cells cs); (AV.ptr r.1 r.2.1 0, r.2.2)).bind (fldsOf t (pol.fld f rid i))
  | .box t x => if draw then none else let r := st.alloc (pol.glob f rid i && !ro) (slotOf o) .gone
    ((ev x).cells.bind fun vs => (intoAll r.1 vs).bind fun cs => if cs.all AV.one then some (AV.ptr r.1 r.2.1 0, r.2.2.setObj r.1 ⟨r.2.1, .cells cs⟩) else none).bind (fldsOf t (pol.fld f rid i))
  | .build t parts => ok (buildOf P t (parts.toList.map fun p => (p.1, ev p.2)))
  | .buildSlice t 0 parts => if parts.isEmpty then ok ((buildSliceOf P t 0 []).map fun _ => .ez) else none
  | .buildSlice t len parts => if draw && pol.mu f rid i then none else (buildSliceOf P t len (parts.toList.map fun p => (p.1, ev p.2))).bind fun xs =>
    newSlice st (pol.mu f rid i) (pol.glob f rid i && !ro) (slotAt pol f rid i o) xs.1 xs.2
  | .makeSlice t l c => if draw then none else (makeSliceOf P t (ev l) (ev c)).bind fun xs =>
    newSlice st (pol.mu f rid i) (pol.glob f rid i && !ro) (slotAt pol f rid i o) xs.1 xs.2
  | .load t a => if pol.frz f rid i then (if draw then none else (loadAt P st t (ev a)).bind (frzOf ro st)) else if pol.own f rid i && !ownAddr (ev a) then none else ok (loadAt P st t (ev a))
  | .store t a x => if draw then none else (storeAt P ro st t (ev a) (ev x)).map fun st1 => (.tup [], st1)
  | .nilCheck x => match ev x with
    | .ptr c v off => ok (some (.ptr c v off))
    | .eptr c v i j => ok (some (.eptr c v i j))
    | .cptr cs => ok (some (.cptr cs))
    | _ => none
  | .binOp op t x y _ => ok (binOf P op t (ev x) (ev y) (isConst x) (isConst y))
  | .unOp op _ x => ok (unOf op (ev x))
  | .convert s d x => ok (convOf P s d (ev x))
  | .makeInterface t x => match P.underlying t with
    | some (.interface _) => none
    | some _ => ok (some (.ifc t (ev x)))
    | none => none
  | .makeFunc fn first caps => ok (some (.fn fn (first.toList.map ev) (caps.toList.map ev)))
  | .makeMap _ none => if draw then none else let r := st.alloc (pol.glob f rid i && !ro) (slotOf o) (.map []); some (.mp r.1 r.2.1, r.2.2)
  | .slice t x lo hi mx => ok (sliceOf P t (ev x) (lo.map ev) (hi.map ev) (mx.map ev))
  | .fieldAddr t x fd => ok (fieldAddr P t (ev x) fd)
  | .field t x fd => ok (fieldOf P t (ev x) fd)
  | .indexAddr t x ix => ok (indexAddr P st t (ev x) (ev ix))
  | .index t x ix => ok (indexOf P t (ev x) (ev ix))
  | .lookup t x k okk => match P.underlying t with
    | some (.map kt e) => if !keyFits P kt (ev k) then none else match ev x with
      | .mp c v => match st.con c v with
        | .map es => ok ((mapFind (ev k) es).bind fun r => match r with
          | some v => (c.from v).map fun v => if okk then .tup [v, .bool true] else v
          | none => (zero? P e).map fun z => if okk then .tup [z, .bool false] else z)
        | _ => none
      | .nilm => ok ((zero? P e).map fun z => if okk then .tup [z, .bool false] else z)
      | _ => none
    | _ => none
  | .mapUpdate t m k x | .insert t m k x => match P.underlying t with
    | some (.map kt _) => if draw || !keyFits P kt (ev k) then none else match ev m with
      | .mp c v => if ro && !c.here then none else match st.con c v with
        | .map es => (c.into (ev x)).bind fun x => (mapPut (ev k) x es).map fun es => (.tup [], st.setObj c ⟨v, .map es⟩)
        | _ => none
      | _ => none
    | _ => none
  | .extract t k => match ev t with
    | .tup vs => ok (vs[k]?)
    | _ => none
  | .call c => (whoOf P ev c).bind fun w => match w with
    | .blt b => bltOf P ro ev st (pol.mu f rid i) (pol.glob f rid i && !ro) draw (slotAt pol f rid i o) b c
    | .func g args =>
      match pol.intr g with
      | some fn => ok (fn args)
      | none => match pol.intrH g with
        | some fn => if draw || ro || pol.away f rid i then none else fn args st
        | none => if pol.away f rid i && !(draw || pol.mu f rid i) then awayOf call ro g args st else (AV.travL (AV.mapLoc Loc.push) args).bind fun args =>
        (call (ro || draw) g args (st.cur :: st.out) st.glob).bind (landOf st (pol.mu f rid i) draw (slotAt pol f rid i o))
  | _ => none

/-- How it meets the heap: 0 not at all, 1 it reads, 2 it may write. -/
def meets (rid i : Nat) (draw : Bool) (o : Oper) : Nat :=
  match o.op with
  | .move _ => if pol.frz f rid i then 2 else 0
  | .assign _ => if pol.mu f rid i then 2 else 0
  | .pick _ _ _ | .build _ _ | .nilCheck _ | .binOp _ _ _ _ _ | .unOp _ _ _ | .convert _ _ _ | .makeInterface _ _ | .makeFunc _ _ _ | .slice _ _ _ _ _
  | .fieldAddr _ _ _ | .field _ _ _ | .index _ _ _ | .extract _ _ => 0
  | .buildSlice _ _ _ => if pol.mu f rid i then 2 else 0
  | .load _ _ => if pol.frz f rid i then 2 else if pol.own f rid i then 3 else 1
  | .lookup _ _ _ _ | .indexAddr _ _ _ => 1
  | .call c => match c.callee with
    | .builtin b => match b with
      | .min | .max => 0
      | .len => 1
      | _ => 2
    | _ => if draw then 1 else if pol.away f rid i && !pol.mu f rid i then 4 else 2
  | _ => 2

/-- Which temporaries an operation reads. -/
def readsOf (ops : Array Oper) (o : Oper) : List Tmp :=
  (o.op.operands.toList.filterMap fun | .tmp t => some t | _ => none) ++
  (match o.guard with | some (j, _) => ((ops[j]?).bind (·.dst)).toList | none => [])
/-- Operation j stands behind i in every order. -/
def behind (ops : Array Oper) (i j : Nat) : Bool := ((Region.before ops).getD j 0).testBit i
/-- Its place among the others that meet the heap is the same in every order. -/
def fixed (rid : Nat) (ops : Array Oper) (i : Nat) : Bool :=
  (List.range ops.size).all fun j => i == j || behind ops i j || behind ops j i || (match ops[j]? with | some o => meets pol f rid j true o == 0 || (pol.away f rid i && meets pol f rid j true o == 3) | none => false)
/-- Does the order leave its place open? -/
def drawn (rid : Nat) (ops : Array Oper) (draw : Bool) (i : Nat) : Bool := draw && !fixed pol f rid ops i
/-- May operations i, j change places? -/
def swaps (rid : Nat) (ops : Array Oper) (i j : Nat) : Bool :=
  match ops[i]?, ops[j]? with
  | some a, some b =>
    (match a.dst, b.dst with
     | some x, some y => x != y
     | _, _ => true) &&
    (match a.dst with | some x => !(readsOf ops b).contains x | none => true) &&
    (match b.dst with | some y => !(readsOf ops a).contains y | none => true) &&
    (let m := meets pol f rid i (drawn pol f rid ops true i) a
     let n := meets pol f rid j (drawn pol f rid ops true j) b
     m == 0 || n == 0 || (m == 1 && n == 1) || (m == 3 && (n == 1 || n == 3 || n == 4)) || (n == 3 && (m == 1 || m == 4)))
  | _, _ => false
def regionOk (rid : Nat) (ops : Array Oper) : Bool :=
  (List.range ops.size).all fun j => ((List.range j).all fun i => behind ops i j || swaps pol f rid ops i j) &&
    (match ops[j]? with | some o => o.after.toList.all fun e => !Region.binds .any e || decide (e.on < j) | none => false)

/-- Is it carried out? -/
def wanted (ops : Array Oper) (o : Oper) (tm : Nat → AV) : Option Bool :=
  match o.guard with
  | none => some true
  | some (j, want) => match (ops[j]?).bind (·.dst) with
    | some d => match tm d with
      | .bool b => some (b == want)
      | .tup [] => some false
      | _ => none
    | none => some false

def exOp (rid i : Nat) (draw : Bool) (o : Oper) (st : St) : Option St :=
  (opF P pol call f ro rid i draw o (St.ev st.tmps) st.hp).map fun r => { tmps := putT st.tmps o.dst r.1, hp := r.2 }
def stepOp (ops : Array Oper) (rid : Nat) (draw : Bool) (i : Nat) (st : St) : Option St :=
  match ops[i]? with
  | none => some st
  | some o => (wanted ops o st.tmps).bind fun b =>
    if b then exOp P pol call f ro rid i (drawn pol f rid ops draw i) o st else some { st with tmps := putT st.tmps o.dst (.tup []) }

def exOps (ops : Array Oper) (rid : Nat) (draw : Bool) : List Nat → St → Option St
  | [], st => some st
  | i :: is, st => (stepOp P pol call f ro ops rid draw i st).bind (exOps ops rid draw is)

inductive Ex where
  | normal
  | exit (id : Nat)
  | ret
  deriving DecidableEq

/-- Rounds of a loop. -/
def rounds (body : St → Option (Ex × St)) : Nat → St → Option (Ex × St)
  | 0, _ => none
  | k + 1, st => (body st).bind fun r => match r.1 with
    | .normal => rounds body k r.2
    | e => some (e, r.2)

def exCode (k : Nat) : Code → St → Option (Ex × St)
  | .skip, st => some (.normal, st)
  | .region id ops draw, st => if draw && !regionOk pol f id ops then none else (exOps P pol call f ro ops id draw (List.range ops.size) st).map fun st => (.normal, st)
  | .seq a b, st => (exCode k a st).bind fun r => match r.1 with
    | .normal => exCode k b r.2
    | e => some (e, r.2)
  | .cond c a b, st => (aBool (St.ev st.tmps c)).bind fun t => if t then exCode k a st else exCode k b st
  | .block id body, st => (exCode k body st).map fun r => if r.1 = .exit id then (.normal, r.2) else r
  | .loop body, st => rounds (exCode k body) k st
  | .exit id, st => some (.exit id, st)
  | .ret, st => some (.ret, st)
  | _, _ => none
end

/-- The temporaries at a call's begin. -/
def argTmps (args : List AV) (n : Nat) : Nat → AV := fun t => match args[t]? with | some a => a | none => if t < n then .tup [] else .undef

/-- A call of function f. -/
def aCall (P : Program) (pol : Pol) : Nat → CallF
  | 0 => fun _ _ _ _ _ => none
  | k + 1 => fun ro f args out glob =>
    (P.funcs[f]?).bind fun fn => fn.body.bind fun c =>
    if fn.ntmps < args.length then none else
    (exCode P pol (aCall P pol k) f ro k c { tmps := argTmps args fn.ntmps, hp := { cur := fun _ => ⟨0, .gone⟩, out, glob } }).bind fun r =>
    match r.1 with
    | .exit _ => none
    | _ => (resultsOf P r.2 fn.results.toList).map fun vs => (oneOf vs, r.2.hp)

/-- What a program must be like: every operation writes a temporary that is there. -/
def dstOk (n : Nat) : Code → Bool
  | .region _ ops _ => ops.toList.all fun o => match o.dst with | some d => decide (d < n) | none => true
  | .seq a b => dstOk n a && dstOk n b
  | .cond _ a b => dstOk n a && dstOk n b
  | .block _ c => dstOk n c
  | .loop c => dstOk n c
  | _ => true
def progOk (P : Program) : Bool :=
  P.funcs.toList.all fun fn => fn.name != "runtime.NumGoroutine" && match fn.body with | some c => dstOk fn.ntmps c | none => true
end Go.AE
