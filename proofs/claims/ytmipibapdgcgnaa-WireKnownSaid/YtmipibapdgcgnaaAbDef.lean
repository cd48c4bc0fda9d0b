/- The abstract machine: definitions. -/
import Derived.Calls
import Derived.Defers
namespace Go.Ab
open Go

/-! ### Trees -/
inductive Tree (α : Type) where
  | leaf
  | node (v : Option α) (l r : Tree α)

def Tree.get {α : Type} : Tree α → Nat → Option α
  | .leaf, _ => none
  | .node v l r, n => match n with
    | 0 => v
    | n + 1 => bif Nat.beq (n % 2) 0 then l.get (n / 2) else r.get (n / 2)

def Tree.putF {α : Type} : Nat → Tree α → Nat → Option α → Tree α
  | 0, t, _, _ => t
  | f + 1, t, n, x => match t with
    | .leaf => match n with
      | 0 => .node x .leaf .leaf
      | n + 1 => bif Nat.beq (n % 2) 0 then .node none (Tree.putF f .leaf (n / 2) x) .leaf else .node none .leaf (Tree.putF f .leaf (n / 2) x)
    | .node v l r => match n with
      | 0 => .node x l r
      | n + 1 => bif Nat.beq (n % 2) 0 then .node v (Tree.putF f l (n / 2) x) r else .node v l (Tree.putF f r (n / 2) x)

def Tree.put {α : Type} (t : Tree α) (n : Nat) (x : Option α) : Tree α := Tree.putF (n + 1) t n x

/-! ### Blocks, heaps, frames -/
def UNK : Nat := 4611686018427387904
/-- The capacity of a slice whose capacity is not known, over elements of u cells. -/
def unk (u : Nat) : Nat := UNK + u
def junk : Value := .tuple #[.tuple #[.tuple #[]]]

inductive Blk where
  | cells (own : Bool) (cs : List Value)
  | map (es : List MapEntry) (clock : Nat)
  | iter (s : ByteArray) (pos : Nat)

structure Heap where
  next : Nat
  t : Tree Blk

def Heap.get (h : Heap) (id : Nat) : Option Blk := h.t.get id
def Heap.put (h : Heap) (id : Nat) (b : Blk) : Heap := ⟨h.next, h.t.put id (some b)⟩
def Heap.del (h : Heap) (id : Nat) : Heap := ⟨h.next, h.t.put id none⟩
def Heap.alloc (h : Heap) (b : Blk) : Heap := ⟨h.next + 1, h.t.put h.next (some b)⟩

structure Fr where
  n : Nat
  t : Tree Value
  df : List Deferred

def Fr.get (fr : Fr) (i : Nat) : Value := (fr.t.get i).getD undef
def Fr.set (fr : Fr) (i : Nat) (v : Value) : Fr := { fr with t := fr.t.put i (some v) }
def Fr.put (fr : Fr) (dst : Option Tmp) (v : Value) : Fr :=
  match dst with
  | some d => fr.set d v
  | none => fr

def Fr.ev (fr : Fr) : Operand → Value
  | .tmp t => fr.get t
  | .const v => v
  | .global g => .pointer (some ⟨g, 0, none⟩)
  | .func f => .func (.func f) #[] #[]

/-! ### Values -/
def scalar : Value → Bool
  | .bool _ | .int _ _ | .float _ _ | .complex _ _ _ | .string _ | .nilFunc | .nilIface => true
  | .pointer none | .map none | .chan none => true
  | .slice none n c => Nat.beq n 0 && Nat.beq c 0
  | _ => false

def flat : Value → Bool
  | .agg cs => cs.toList.all scalar
  | .iface _ v => scalar v
  | v => scalar v

/-- No address anywhere (to a fixed depth). -/
def closedN : Nat → Value → Bool
  | 0, v => scalar v
  | n + 1, v => match v with
    | .agg cs => cs.toList.all (closedN n)
    | .tuple cs => cs.toList.all (closedN n)
    | .iface _ v => closedN n v
    | .func (.func _) first cap => first.toList.all (closedN n) && cap.toList.all (closedN n)
    | v => scalar v

def pureRun {α : Type} (P : Program) : Sem α → Option α
  | .pure a => some a
  | .program k => pureRun P (k P)
  | .mark _ k => pureRun P k
  | _ => none

def isAggT (P : Program) (t : TypeId) : Option Bool :=
  match P.underlying t with
  | some (.struct _) | some (.array _ _) => some true
  | some _ => some false
  | none => none

def szOf (P : Program) (t : TypeId) : Option Nat := (P.info? t).map (·.size)

def zeroOf (P : Program) (t : TypeId) : Option Value := (P.info? t).bind (·.zero)

/-- Part of an aggregate. -/
def partP (P : Program) (t : TypeId) (cs : Array Value) (off : Nat) : Option Value :=
  match isAggT P t with
  | some true => (szOf P t).map fun n => .agg (cs.extract off (off + n))
  | some false => cs[off]?
  | none => none

def addOff (a : Addr) (n : Nat) : Addr := ⟨a.block, a.off + n, none⟩

def intOf? : Value → Option Int
  | .int _ n => some n
  | _ => none

/-- An index that lies in [0, n]. -/
def within (v : Value) (n : Nat) : Option Nat :=
  match v with
  | .int _ i => bif decide (0 ≤ i) && Nat.ble i.toNat n then some i.toNat else none
  | _ => none

def boundOf (ev : Operand → Value) (d n : Nat) : Option Operand → Option Nat
  | none => some d
  | some o => within (ev o) n

/-- The upper bounds of a slice expression, the capacity known. -/
def hmP (ev : Operand → Value) (len cap : Nat) (hi mx : Option Operand) : Option (Nat × Nat) :=
  match mx with
  | none => (boundOf ev len cap hi).map fun h => (h, cap)
  | some mo => (within (ev mo) cap).bind fun m => hi.bind fun ho => (within (ev ho) m).map fun h => (h, m)

def sliceP (P : Program) (ev : Operand → Value) (t : TypeId) (x : Value) (lo hi mx : Option Operand) : Option Value :=
  match P.underlying t, x with
  | some .string, .string s =>
    if mx.isSome then none else
    (boundOf ev s.size s.size hi).bind fun h => (boundOf ev 0 h lo).map fun l => .string (s.extract l h)
  | some (.slice elem), .slice a len cap =>
    (szOf P elem).bind fun size =>
    if Nat.ble UNK cap then
      if !Nat.beq cap (unk size) then none else
      match mx with
      | none => (boundOf ev len len hi).bind fun h => (boundOf ev 0 h lo).map fun l => .slice (a.map (addOff · (l * size))) (h - l) (unk size)
      | some mo => (within (ev mo) len).bind fun m => if !Nat.blt m UNK then none else hi.bind fun ho => (within (ev ho) m).bind fun h => (boundOf ev 0 h lo).map fun l =>
          .slice (if m = l then a else a.map (addOff · (l * size))) (h - l) (m - l)
    else
      (hmP ev len cap hi mx).bind fun hm =>
      (boundOf ev 0 hm.1 lo).map fun l => .slice (if hm.2 = l then a else a.map (addOff · (l * size))) (hm.1 - l) (hm.2 - l)
  | some (.array n elem), .pointer (some a) =>
    (szOf P elem).bind fun size => if !Nat.blt n UNK then none else
      (hmP ev n n hi mx).bind fun hm =>
      (boundOf ev 0 hm.1 lo).map fun l => .slice (some (if hm.2 = l then a else addOff a (l * size))) (hm.1 - l) (hm.2 - l)
  | _, _ => none

/-- A pure answer that holds no address. -/
def pureS (P : Program) (s : Sem Value) : Option Value := (pureRun P s).bind fun v => if scalar v then some v else none

/-- A comparison with nil. -/
def nilCmp (P : Program) (t : TypeId) (a b : Value) (neg : Bool) : Option Value :=
  match P.underlying t, a, b with
  | some (.pointer _), .pointer (some _), .pointer none | some (.pointer _), .pointer none, .pointer (some _) => some (.bool neg)
  | some (.slice _), .slice (some _) _ _, .slice none _ _ | some (.slice _), .slice none _ _, .slice (some _) _ _ => some (.bool neg)
  | some (.map _ _), .map (some _), .map none | some (.map _ _), .map none, .map (some _) => some (.bool neg)
  | some (.func _ _ _), .func _ _ _, .nilFunc | some (.func _ _ _), .nilFunc, .func _ _ _ => some (.bool neg)
  | some (.interface _), .iface _ _, .nilIface | some (.interface _), .nilIface, .iface _ _ => some (.bool neg)
  | _, _, _ => none

def binP (P : Program) (op : BinOp) (t : TypeId) (x y : Operand) (a b : Value) : Option Value :=
  if flat a && flat b then pureS P (do eqGuard op t x y a b; binOp op t a b)
  else match op with
    | .eql => nilCmp P t a b false
    | .neq => nilCmp P t a b true
    | _ => none

/-- Where the fields of a struct lie. -/
def placesOf (P : Program) : List Field → Option (List (Nat × Nat))
  | [] => some []
  | f :: fs => (szOf P f.type).bind fun n => (placesOf P fs).map fun l => (f.offset, n) :: l

/-- Operations on registers alone. -/
def pOp (P : Program) (ev : Operand → Value) (o : Oper) : Option Value :=
  match o.op with
  | .move x => some (ev x)
  | .assign x => some (ev x)
  | .pick c a b => match ev c with
    | .bool t => some (bif t then ev a else ev b)
    | _ => none
  | .nilCheck x => match ev x with
    | .pointer (some _) => some (ev x)
    | .func (.func _) _ _ => some (ev x)
    | .iface _ _ => some (ev x)
    | _ => none
  | .binOp op t x y _ => binP P op t x y (ev x) (ev y)
  | .unOp op _ x => if flat (ev x) then pureS P (Op.unary op (ev x)) else none
  | .convert src dst x => if flat (ev x) then pureS P (convert src dst (ev x)) else none
  | .makeInterface t x => match P.underlying t with
    | some (.interface _) => none
    | none => none
    | some _ => some (.iface t (ev x))
  | .makeFunc (.func f) first cap => some (.func (.func f) (first.map ev) (cap.map ev))
  | .slice t x lo hi mx => sliceP P ev t (ev x) lo hi mx
  | .fieldAddr s x f => match P.underlying s, ev x with
    | some (.struct fields), .pointer (some a) => fields[f]?.bind fun fd =>
      match szOf P fd.type with
      | some (_ + 1) => some (.pointer (some (addOff a fd.offset)))
      | _ => none
    | _, _ => none
  | .field t x f => match P.underlying t, ev x with
    | some (.struct fields), .agg cs => fields[f]?.bind fun fd => partP P fd.type cs fd.offset
    | _, _ => none
  | .indexAddr t x i => match P.underlying t, ev x, ev i with
    | some (.array n e), .pointer (some a), .int _ i => bif decide (0 ≤ i) && Nat.blt i.toNat n then (szOf P e).map fun z => .pointer (some (addOff a (i.toNat * z))) else none
    | some (.slice e), .slice (some a) n _, .int _ i => bif decide (0 ≤ i) && Nat.blt i.toNat n then (szOf P e).map fun z => .pointer (some (addOff a (i.toNat * z))) else none
    | _, _, _ => none
  | .index t x i => match P.underlying t, ev x, ev i with
    | some (.array n e), .agg cs, .int _ i => bif decide (0 ≤ i) && Nat.blt i.toNat n then (szOf P e).bind fun z => partP P e cs (i.toNat * z) else none
    | some .string, .string s, .int _ i => bif decide (0 ≤ i) then (s[i.toNat]?).map fun b => .int .u8 b.toNat else none
    | _, _, _ => none
  | .typeAssert x _ t ok => match P.underlying t, ev x with
    | some (.interface _), _ => none
    | some _, .iface u v => if Nat.beq u t then some (if ok then .tuple #[v, .bool true] else v)
        else if ok then (zeroOf P t).bind fun z => if closedN 3 z then some (.tuple #[z, .bool false]) else none else none
    | some _, .nilIface => if ok then (zeroOf P t).bind fun z => if closedN 3 z then some (.tuple #[z, .bool false]) else none else none
    | _, _ => none
  | .extract t i => match ev t with
    | .tuple vs => if Nat.ble 2 vs.size then vs[i]? else none
    | _ => none
  | .build t parts => (zeroOf P t).bind fun z => if !closedN 3 z then none else match P.underlying t with
    | some (.struct fields) => (placesOf P fields.toList).bind fun places =>
        (Instr.fill (places.toArray[·]?) z.cells (parts.map fun (i, x) => (i, ev x)).toList).map .agg
    | some (.array _ e) => (szOf P e).bind fun n => (Instr.fill (fun i => some (i * n, n)) z.cells (parts.map fun (i, x) => (i, ev x)).toList).map .agg
    | _ => none
  | .call c => match c.callee with
    | .builtin .len => match (c.argTypes[0]?).bind P.underlying, (c.args[0]?).map ev with
      | some .string, some (.string s) => some (goInt s.size)
      | some (.array n _), some _ => some (goInt n)
      | some (.pointer arr), some _ => match P.underlying arr with
        | some (.array n _) => some (goInt n)
        | _ => none
      | some (.slice _), some (.slice _ n _) => some (goInt n)
      | some (.map _ _), some (.map none) => some (goInt 0)
      | _, _ => none
    | .builtin .cap => match (c.argTypes[0]?).bind P.underlying, (c.args[0]?).map ev with
      | some (.array n _), some _ => some (goInt n)
      | some (.slice _), some (.slice _ _ n) => if Nat.blt n UNK then some (goInt n) else none
      | _, _ => none
    | .builtin .min => let vs := c.args.map ev; if vs.toList.all flat then pureS P (Builtin.min_ c.argTypes o.type vs) else none
    | .builtin .max => let vs := c.args.map ev; if vs.toList.all flat then pureS P (Builtin.max_ c.argTypes o.type vs) else none
    | _ => none
  | _ => none

/-- Cells of a block. -/
def cellsAt (get : Nat → Option Blk) (a : Addr) (n : Nat) : Option (List Value) :=
  match get a.block with
  | some (.cells _ cs) => let r := (cs.drop a.off).take n; if Nat.beq r.length n then some r else none
  | _ => none

def cellAt (get : Nat → Option Blk) (a : Addr) : Option Value :=
  match get a.block with
  | some (.cells _ cs) => cs[a.off]?
  | _ => none

def bytesOf? : List Value → Option (List UInt8)
  | [] => some []
  | .int .u8 n :: r => (bytesOf? r).map (UInt8.ofNat n.toNat :: ·)
  | _ => none

def basicKey : Option TypeDesc → Bool
  | some (.int _) | some .string | some .bool => true
  | _ => false

/-- Operations that read memory. -/
def rOp (P : Program) (ev : Operand → Value) (get : Nat → Option Blk) (o : Oper) : Option Value :=
  match o.op with
  | .load t x => match isAggT P t, ev x with
    | some true, .pointer (some a) => (szOf P t).bind fun n => (cellsAt get a n).map fun l => .agg l.toArray
    | some false, .pointer (some a) => cellAt get a
    | _, _ => none
  | .convert src dst x => match P.underlying src, P.underlying dst, ev x with
    | some (.slice e), some .string, .slice none _ _ => match P.underlying e with
      | some (.int .u8) => some (.string .empty)
      | _ => none
    | some (.slice e), some .string, .slice (some a) n _ => match P.underlying e with
      | some (.int .u8) => (cellsAt get a n).bind fun l => (bytesOf? l).map fun b => .string ⟨b.toArray⟩
      | _ => none
    | _, _, _ => none
  | .lookup t x i ok => match P.underlying t, ev x with
    | some (.map key elem), .map none => if basicKey (P.underlying key) then (zeroOf P elem).bind fun z => if closedN 3 z then some (if ok then .tuple #[z, .bool false] else z) else none else none
    | some (.map key elem), .map (some r) => if basicKey (P.underlying key) && scalar (ev i) then
        match get r, P.underlying key with
        | some (.map es _), some kd => (Instr.findNow kd (ev i) es 0).bind fun f => match f with
          | some (_, v) => some (if ok then .tuple #[v, .bool true] else v)
          | none => (zeroOf P elem).bind fun z => if closedN 3 z then some (if ok then .tuple #[z, .bool false] else z) else none
        | _, _ => none
      else none
    | _, _ => none
  | .call c => match c.callee with
    | .builtin .len => match (c.argTypes[0]?).bind P.underlying, (c.args[0]?).map ev with
      | some (.map _ _), some (.map (some r)) => match get r with
        | some (.map es _) => some (goInt es.length)
        | _ => none
      | _, _ => none
    | _ => none
  | _ => none

def zerosL (z : List Value) : Nat → List Value
  | 0 => []
  | n + 1 => z ++ zerosL z n

/-- Operations that make a block: the block, and the value as a function of its number. -/
def aOp (P : Program) (ev : Operand → Value) (o : Oper) : Option (Blk × (Nat → Value)) :=
  match o.op with
  | .alloc elem => (zeroOf P elem).bind fun z => if closedN 3 z then some (.cells true z.cells.toList, fun id => .pointer (some ⟨id, 0, none⟩)) else none
  | .box _ x => some (.cells true (ev x).cells.toList, fun id => .pointer (some ⟨id, 0, none⟩))
  | .buildSlice t len parts => match P.underlying t with
    | some (.slice e) => (szOf P e).bind fun n => (zeroOf P e).bind fun z =>
      if !closedN 3 z || !Nat.beq z.cells.size n || Nat.blt 16777216 (len * n) || Nat.blt 16777216 len then none else
      (Instr.fill (fun i => some (i * n, n)) (zerosL z.cells.toList len).toArray (parts.map fun (i, x) => (i, ev x)).toList).map fun cs =>
        (.cells true cs.toList, fun id => .slice (some ⟨id, 0, none⟩) len len)
    | _ => none
  | .makeMap _ none => some (.map [] 0, fun id => .map (some id))
  | .makeSlice t l c => match P.underlying t, ev l, ev c with
    | some (.slice e), .int _ l, .int _ c => (P.info? e).bind fun i => i.zero.bind fun z =>
      if !closedN 3 z || !Nat.beq z.cells.size i.size || !(decide (0 ≤ l) && decide (l ≤ c) && decide (c < 1099511627776)) || Nat.blt 1099511627776 (c.toNat * i.bytes) then none else
      some (.cells true (zerosL z.cells.toList c.toNat), fun id => .slice (some ⟨id, 0, none⟩) l.toNat c.toNat)
    | _, _, _ => none
  | .range t x => match P.underlying t, ev x with
    | some .string, .string s => some (.iter s 0, fun id => .pointer (some ⟨id, 0, none⟩))
    | _, _ => none
  | .convert src dst x => match P.underlying src, P.underlying dst, ev x with
    | some .string, some (.slice e), .string s => match P.underlying e with
      | some (.int .u8) => if Nat.blt s.size 1099511627776 then some (.cells true (s.data.toList.map fun b => .int .u8 b.toNat), fun id => .slice (some ⟨id, 0, none⟩) s.size (unk 1)) else none
      | _ => none
    | _, _, _ => none
  | _ => none

/-- Stores cells into a row. -/
def splice : List Value → Nat → List Value → Option (List Value)
  | cs, 0, [] => some cs
  | cs, 0, v :: vs => match cs with
    | [] => none
    | _ :: cs => (splice cs 0 vs).map (v :: ·)
  | [], _ + 1, vs => match vs with
    | [] => some []
    | _ => none
  | c :: cs, n + 1, vs => (splice cs n vs).map (c :: ·)

def oneCell : Value → Bool
  | .agg _ | .tuple _ => false
  | _ => true

def storeH (h : Heap) (a : Addr) (vs : List Value) : Option Heap :=
  match h.get a.block with
  | some (.cells true cs) => if vs.all oneCell then (splice cs a.off vs).map fun cs => h.put a.block (.cells true cs) else none
  | _ => none

/-- What an argument of append, copy gives: n elements. -/
def srcCells (get : Nat → Option Blk) (size n : Nat) (v : Value) : Option (List Value) :=
  if n = 0 then some [] else match v with
  | .slice (some a) _ _ => cellsAt get a (n * size)
  | .string s => if size = 1 then some (((s.data.toList).take n).map fun b => .int .u8 b.toNat) else none
  | _ => none

def lenP : Value → Option Nat
  | .slice _ n _ => some n
  | .string s => some s.size
  | _ => none

def isIntD : TypeDesc → Bool
  | .int _ => true
  | _ => false

/-- How many elements are appended. -/
def appN (d : TypeDesc) (x : Value) : Option Nat := if isIntD d then within x 1099511627776 else lenP x

/-- Which. -/
def appNew (get : Nat → Option Blk) (d : TypeDesc) (z : List Value) (size n : Nat) (x : Value) : Option (List Value) :=
  if isIntD d then some (zerosL z n) else srcCells get size n x

def appendE (P : Program) (argTypes : Array TypeId) (s x : Value) (h : Heap) : Option (Value × Heap) :=
  match (argTypes[0]?).bind P.underlying, (argTypes[1]?).bind P.underlying, s with
  | some (.slice e), some d, .slice base sLen sCap =>
    (P.info? e).bind fun info => info.zero.bind fun z =>
    (appN d x).bind fun n =>
    if n = 0 then some (.slice base sLen sCap, h) else
    if !closedN 3 z || !Nat.beq z.cells.size info.size || Nat.beq info.size 0 || Nat.beq info.bytes 0 || Nat.blt 1099511627776 ((sLen + n) * info.bytes) then none else
    (appNew h.get d z.cells.toList info.size n x).bind fun new =>
    (srcCells h.get info.size sLen (.slice base sLen sCap)).bind fun old =>
    if sCap < sLen + n then
      some (.slice (some ⟨h.next, 0, none⟩) (sLen + n) (unk info.size), h.alloc (.cells true (old ++ new)))
    else match base with
      | none => none
      | some a => match h.get a.block with
        | some (.cells true cs) =>
          if (Nat.beq sCap (unk info.size) || (Nat.blt sCap UNK && Nat.ble (a.off + sCap * info.size) cs.length)) && new.all oneCell then
            some (.slice (some ⟨h.next, 0, none⟩) (sLen + n) (unk info.size), (h.del a.block).alloc (.cells true (old ++ new)))
          else none
        | _ => none
  | _, _, _ => none

/-- Operations that write memory. -/
def eOp (P : Program) (ev : Operand → Value) (o : Oper) (h : Heap) : Option (Value × Heap) :=
  match o.op with
  | .store t x y => match ev x with
    | .pointer (some a) => (szOf P t).bind fun n => if Nat.beq (ev y).cells.size n then (storeH h a (ev y).cells.toList).map fun h => (undef, h) else none
    | _ => none
  | .mapUpdate t m k v => mapU t m k v
  | .insert t m k v => mapU t m k v
  | .mapEntry t m k => match P.underlying t, ev m with
    | some (.map key elem), .map (some r) => if basicKey (P.underlying key) && scalar (ev k) then
        match h.get r, P.underlying key with
        | some (.map es c), some kd => (Instr.findNow kd (ev k) es 0).bind fun f => match f with
          | some (i, v) => (es[i]?).map fun e => (.tuple #[v, goInt e.born], h.put r (.map (es.set i { e with key := ev k }) c))
          | none => (zeroOf P elem).bind fun z => if closedN 3 z then some (.tuple #[z, goInt c], h.put r (.map (es ++ [{ key := ev k, val := z, born := c }]) (c + 1))) else none
        | _, _ => none
      else none
    | _, _ => none
  | .entryStore _ m s v => match ev m, ev s with
    | .map (some r), .int _ b => match h.get r with
      | some (.map es c) => (es.findIdx? fun e => (e.born : Int) == b).bind fun i => (es[i]?).map fun e => (undef, h.put r (.map (es.set i { e with val := ev v }) c))
      | _ => none
    | _, _ => none
  | .next x str => match ev x, str with
    | .pointer (some a), true => match a.off, h.get a.block with
      | 0, some (.iter s pos) =>
        if Nat.blt pos s.size then
          let d := Utf8.decode s pos
          some (.tuple #[.bool true, goInt pos, .int .i32 d.1], h.put a.block (.iter s (pos + d.2)))
        else some (.tuple #[.bool false], h)
      | _, _ => none
    | _, _ => none
  | .call c => match c.callee with
    | .builtin .append => match c.args[0]?, c.args[1]? with
      | some s, some x => appendE P c.argTypes (ev s) (ev x) h
      | _, _ => none
    | .builtin .copy => match (c.argTypes[0]?).bind P.underlying, (c.args[0]?).map ev, (c.args[1]?).map ev with
      | some (.slice e), some (.slice base dLen _), some src =>
        (szOf P e).bind fun size => (lenP src).bind fun m =>
        let n := Nat.min m dLen
        if Nat.beq n 0 then some (goInt 0, h) else
        (srcCells h.get size n src).bind fun l => base.bind fun a => (storeH h a l).map fun h => (goInt n, h)
      | _, _, _ => none
    | .builtin .clear => match (c.argTypes[0]?).bind P.underlying, (c.args[0]?).map ev with
      | some _, some (.map none) => some (.tuple #[], h)
      | some _, some (.slice none _ _) => some (.tuple #[], h)
      | some _, some (.slice (some _) 0 _) => some (.tuple #[], h)
      | some (.map _ _), some (.map (some r)) => match h.get r with
        | some (.map _ c) => some (.tuple #[], h.put r (.map [] c))
        | _ => none
      | some (.slice e), some (.slice (some a) n _) => (zeroOf P e).bind fun z => if closedN 3 z then (storeH h a (zerosL z.cells.toList n)).map fun h => (.tuple #[], h) else none
      | _, _ => none
    | .builtin .delete => match (c.argTypes[0]?).bind P.underlying, (c.args[0]?).map ev, (c.args[1]?).map ev with
      | some (.map key _), some (.map none), some _ => if basicKey (P.underlying key) then some (.tuple #[], h) else none
      | some (.map key _), some (.map (some r)), some k => if basicKey (P.underlying key) && scalar k then
          match h.get r, P.underlying key with
          | some (.map es c), some kd => (Instr.findNow kd k es 0).map fun f => match f with
            | some (i, _) => (.tuple #[], h.put r (.map (es.eraseIdx i) c))
            | none => (.tuple #[], h)
          | _, _ => none
        else none
      | _, _, _ => none
    | _ => none
  | _ => none
where
  mapU (t : TypeId) (m k v : Operand) : Option (Value × Heap) :=
    match P.underlying t, ev m with
    | some (.map key _), .map (some r) => if basicKey (P.underlying key) && scalar (ev k) then
        match h.get r, P.underlying key with
        | some (.map es c), some kd => (Instr.findNow kd (ev k) es 0).bind fun f => match f with
          | some (i, _) => (es[i]?).map fun e => (undef, h.put r (.map (es.set i { e with key := ev k, val := ev v }) c))
          | none => some (undef, h.put r (.map (es ++ [{ key := ev k, val := ev v, born := c }]) (c + 1)))
        | _, _ => none
      else none
    | _, _ => none

/-! ### What an operation is -/
inductive Cls where
  | p | r | a | e | call | defer | bad
  deriving DecidableEq

def clsOf (P : Program) (o : Oper) : Cls :=
  match o.op with
  | .move _ | .assign _ | .pick _ _ _ | .nilCheck _ | .binOp _ _ _ _ _ | .unOp _ _ _ | .makeInterface _ _ | .makeFunc _ _ _ | .slice _ _ _ _ _ | .fieldAddr _ _ _ | .field _ _ _
  | .indexAddr _ _ _ | .index _ _ _ | .typeAssert _ _ _ _ | .extract _ _ | .build _ _ => .p
  | .load _ _ | .lookup _ _ _ _ => .r
  | .alloc _ | .box _ _ | .buildSlice _ _ _ | .makeMap _ _ | .makeSlice _ _ _ | .range _ _ => .a
  | .store _ _ _ | .mapUpdate _ _ _ _ | .insert _ _ _ _ | .mapEntry _ _ _ | .entryStore _ _ _ _ | .next _ _ => .e
  | .convert src dst _ => match P.underlying src, P.underlying dst with
    | some (.slice _), some .string => .r
    | some .string, some (.slice _) => .a
    | _, _ => .p
  | .call c => match c.callee with
    | .builtin .len => match (c.argTypes[0]?).bind P.underlying with
      | some (.map _ _) => .r
      | _ => .p
    | .builtin .cap | .builtin .min | .builtin .max => .p
    | .builtin .append | .builtin .copy | .builtin .clear | .builtin .delete => .e
    | .builtin _ => .bad
    | .value _ => .call
    | .invoke _ _ => .bad
  | .defer _ => .defer
  | _ => .bad

/-- The call that an operation makes: function and arguments. -/
def callOf (ev : Operand → Value) (o : Oper) : Option (FuncId × List Value) :=
  match o.op with
  | .call c => match c.callee with
    | .value f => match ev f with
      | .func (.func k) first cap => some (k, first.toList ++ (c.args.toList.map ev) ++ cap.toList)
      | _ => none
    | _ => none
  | _ => none

def deferOf (ev : Operand → Value) (o : Oper) : Option Deferred :=
  match o.op with
  | .defer c => match c.callee with
    | .value f => match ev f with
      | .func (.func k) first cap => some { target := .fn (.func k) cap, args := first ++ c.args.map ev }
      | _ => none
    | _ => none
  | _ => none

inductive Ex where
  | normal | exit (id : Nat) | ret
  deriving DecidableEq

/-- A region's order, and for each operation those that come before it (a bit mask). -/
structure Reg where
  order : List Nat
  before : List Nat

structure Pend where
  ix : Nat
  o : Oper
  fr : Fr
  v : Value

/-- Is an operation wanted? (none: not to be told) -/
def wantedA (ops : Array Oper) (fr : Fr) (o : Oper) : Option Bool :=
  match o.guard with
  | none => some true
  | some (j, want) => match (ops[j]?).bind (·.dst) with
    | some d => match fr.get d with
      | .bool b => some (b == want)
      | .tuple vs => if Nat.beq vs.size 0 then some false else none
      | _ => none
    | none => some false

def all2 {α : Type} (f : α → α → Bool) : List α → List α → Bool
  | [], [] => true
  | x :: xs, y :: ys => f x y && all2 f xs ys
  | _, _ => false

def veq0 : Value → Value → Bool
  | .bool a, .bool b => a == b
  | .int j a, .int k b => decide (j = k) && decide (a = b)
  | .float j a, .float k b => decide (j = k) && Nat.beq a b
  | .string a, .string b => decide (a.data.toList = b.data.toList)
  | .pointer a, .pointer b => decide (a = b)
  | .slice a n c, .slice b m d => decide (a = b) && Nat.beq n m && Nat.beq c d
  | .map a, .map b => decide (a = b)
  | .nilFunc, .nilFunc => true
  | .nilIface, .nilIface => true
  | _, _ => false

def veqN : Nat → Value → Value → Bool
  | 0, a, b => veq0 a b
  | n + 1, a, b => match a, b with
    | .func (.func f) x y, .func (.func g) z w => Nat.beq f g && all2 (veqN n) x.toList z.toList && all2 (veqN n) y.toList w.toList
    | .iface t v, .iface u w => Nat.beq t u && veqN n v w
    | .agg a, .agg b => all2 (veqN n) a.toList b.toList
    | .tuple a, .tuple b => all2 (veqN n) a.toList b.toList
    | a, b => veq0 a b

/-! ### Running -/
/-- What is known of a program, for the evaluator: its functions that have no body (pure ones; those that make a block), and the order of each region that draws. -/
structure Env where
  P : Program
  ext : FuncId → List Value → Option Value
  extA : FuncId → List Value → Option (Blk × (Nat → Value))
  reg : FuncId → Nat → Option Reg

abbrev CallF := FuncId → List Value → Heap → Option (Value × Heap)

/-- One call: a function without a body, or one with. -/
def doCall (E : Env) (call : CallF) (k : FuncId) (args : List Value) (h : Heap) : Option (Value × Heap) :=
  match E.ext k args with
  | some v => some (v, h)
  | none => match E.extA k args with
    | some (b, f) => some (f h.next, h.alloc b)
    | none => call k args h

/-- An operation that is to be done: the frame and the heap behind it. -/
def runOp (E : Env) (call : CallF) (o : Oper) (fr : Fr) (h : Heap) : Option (Fr × Heap) :=
  match clsOf E.P o with
  | .p => (pOp E.P fr.ev o).map fun v => (fr.put o.dst v, h)
  | .r => (rOp E.P fr.ev h.get o).map fun v => (fr.put o.dst v, h)
  | .a => (aOp E.P fr.ev o).map fun r => (fr.put o.dst (r.2 h.next), h.alloc r.1)
  | .e => (eOp E.P fr.ev o h).map fun r => (fr.put o.dst r.1, r.2)
  | .call => (callOf fr.ev o).bind fun c => (doCall E call c.1 c.2 h).map fun r => (fr.put o.dst r.1, r.2)
  | .defer => (deferOf fr.ev o).map fun d => ({ fr with df := d :: fr.df }.put o.dst undef, h)
  | .bad => none

def runOps (E : Env) (call : CallF) (ops : Array Oper) : List Oper → Fr → Heap → Option (Fr × Heap)
  | [], fr, h => some (fr, h)
  | o :: rest, fr, h =>
    match wantedA ops fr o with
    | some true => (runOp E call o fr h).bind fun r => runOps E call ops rest r.1 r.2
    | some false => runOps E call ops rest (fr.put o.dst undef) h
    | none => none

def isEff : Cls → Bool
  | .e | .call | .defer => true
  | _ => false

/-- Reads that may still come later read the same. -/
def pendOk (E : Env) (before : List Nat) (i : Nat) (h : Heap) (pend : List Pend) : Bool :=
  pend.all fun q => Nat.testBit (before.getD i 0) q.ix || match rOp E.P q.fr.ev h.get q.o with
    | some v => veqN 4 v q.v
    | none => false

def runDraw (E : Env) (call : CallF) (ops : Array Oper) (before : List Nat) : List Nat → List Pend → Fr → Heap → Option (Fr × Heap)
  | [], _, fr, h => some (fr, h)
  | i :: rest, pend, fr, h =>
    match ops[i]? with
    | none => none
    | some o => match wantedA ops fr o with
      | none => none
      | some false => runDraw E call ops before rest pend (fr.put o.dst undef) h
      | some true => (runOp E call o fr h).bind fun r =>
        match clsOf E.P o with
        | .r => (rOp E.P fr.ev h.get o).bind fun v => runDraw E call ops before rest (⟨i, o, fr, v⟩ :: pend) r.1 r.2
        | c => if isEff c then (if pendOk E before i r.2 pend then runDraw E call ops before rest pend r.1 r.2 else none)
          else runDraw E call ops before rest pend r.1 r.2

def runLoop : Nat → (Fr → Heap → Option (Ex × Fr × Heap)) → Fr → Heap → Option (Ex × Fr × Heap)
  | 0, _, _, _ => none
  | n + 1, f, fr, h => (f fr h).bind fun r => match r.1 with
    | .normal => runLoop n f r.2.1 r.2.2
    | _ => some r

def runCode (E : Env) (call : CallF) (L : Nat) (fn : FuncId) : Code → Fr → Heap → Option (Ex × Fr × Heap)
  | .skip, fr, h => some (.normal, fr, h)
  | .region id ops draw, fr, h =>
    if draw then (E.reg fn id).bind fun g => (runDraw E call ops g.before g.order [] fr h).map fun r => (.normal, r.1, r.2)
    else (runOps E call ops ops.toList fr h).map fun r => (.normal, r.1, r.2)
  | .seq a b, fr, h => (runCode E call L fn a fr h).bind fun r => match r.1 with
    | .normal => runCode E call L fn b r.2.1 r.2.2
    | _ => some r
  | .cond c a b, fr, h => match fr.ev c with
    | .bool true => runCode E call L fn a fr h
    | .bool false => runCode E call L fn b fr h
    | _ => none
  | .block id c, fr, h => (runCode E call L fn c fr h).map fun r => match r.1 with
    | .exit j => if Nat.beq j id then (.normal, r.2.1, r.2.2) else r
    | _ => r
  | .loop c, fr, h => runLoop L (runCode E call L fn c) fr h
  | .exit id, fr, h => some (.exit id, fr, h)
  | .ret, fr, h => some (.ret, fr, h)
  | .scope c, fr, h => runCode E call L fn c fr h
  | .label _, fr, h => some (.normal, fr, h)
  | _, _, _ => none

def frame0 (n : Nat) (args : List Value) : Fr := ⟨n, go args 0 .leaf, []⟩
where
  go : List Value → Nat → Tree Value → Tree Value
    | [], _, t => t
    | v :: vs, i, t => go vs (i + 1) (t.put i (some v))

def resOf (P : Program) (h : Heap) (fr : Fr) : List ResultVar → Option (List Value)
  | [] => some []
  | .tmp t :: r => (resOf P h fr r).map (fr.get t :: ·)
  | .cell a t :: r => match fr.get a, isAggT P t with
    | .pointer (some a), some true => (szOf P t).bind fun n => (cellsAt h.get a n).bind fun l => (resOf P h fr r).map (.agg l.toArray :: ·)
    | .pointer (some a), some false => (cellAt h.get a).bind fun v => (resOf P h fr r).map (v :: ·)
    | _, _ => none

def tupled : List Value → Value
  | [v] => v
  | l => .tuple l.toArray

/-- A function's text, without its deferred calls. -/
def runBody (E : Env) (call : CallF) (L : Nat) (k : FuncId) (args : List Value) (h : Heap) : Option (Func × Fr × Heap) :=
  (E.P.funcs[k]?).bind fun fn => fn.body.bind fun c =>
    if Nat.ble args.length fn.ntmps then
      (runCode E call L k c (frame0 fn.ntmps args) h).bind fun r => match r.1 with
        | .exit _ => none
        | _ => some (fn, r.2.1, r.2.2)
    else none

/-- Deferred calls: of functions that defer nothing themselves. -/
def runDefers (E : Env) (call : CallF) (L : Nat) : List Deferred → Heap → Option Heap
  | [], h => some h
  | d :: ds, h => match d.target with
    | .fn (.func k) cap => (runBody E call L k (d.args.toList ++ cap.toList) h).bind fun r => match r.2.1.df with
      | [] => (resOf E.P r.2.2 r.2.1 r.1.results.toList).bind fun _ => runDefers E call L ds r.2.2
      | _ => none
    | _ => none

def runFn (E : Env) (L : Nat) : Nat → CallF
  | 0, _, _, _ => none
  | d + 1, k, args, h => (runBody E (runFn E L d) L k args h).bind fun r =>
    (runDefers E (runFn E L d) L r.2.1.df r.2.2).bind fun h => (resOf E.P h r.2.1 r.1.results.toList).map fun l => (tupled l, h)

/-! ### What is asked of a text -/
def wfOpd (G : Nat) : Operand → Bool
  | .tmp _ => true
  | .const v => closedN 3 v
  | .global g => Nat.blt g G
  | .func _ => true

def wfOper (G n : Nat) (o : Oper) : Bool :=
  o.op.operands.toList.all (wfOpd G) && (match o.dst with | some d => Nat.blt d n | none => true)

def wfCode (G n : Nat) : Code → Bool
  | .region _ ops _ => ops.toList.all (wfOper G n)
  | .seq a b => wfCode G n a && wfCode G n b
  | .cond c a b => wfOpd G c && wfCode G n a && wfCode G n b
  | .block _ c => wfCode G n c
  | .loop c => wfCode G n c
  | .scope c => wfCode G n c
  | .rangeFunc _ _ _ _ => true
  | _ => true

end Go.Ab
