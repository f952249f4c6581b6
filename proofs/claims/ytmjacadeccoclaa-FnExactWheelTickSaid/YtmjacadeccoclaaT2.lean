/- A step of the typed logic of this claim is proved here: what an operation does to the data that slots and memory stand for. -/
import Derived.Test.YtmjacadeccoclaaT1
import Derived.Deep.LoopGhost
set_option linter.all false
namespace Go.Tw
open Go Go.RowKit

structure St where
  s : List (Nat × TV)
  h : Heap
  n : Nat

def sget : List (Nat × TV) → Nat → TV
  | [], _ => .undef
  | (k, x) :: s, t => bif Nat.beq t k then x else sget s t

/-- A frame: its slots; slots that are never written, with the argument that they hold. -/
structure Fm where
  n : Nat
  st : List (Nat × Nat)

/-- What a call knows of its surroundings. -/
structure Cx where
  P : Program
  m : Fm
  w0 : World
  imm : Nat → Prop
  ok : Nat → Prop
  immlt : ∀ b, imm b → b < w0.heap.size
  immok : ∀ b, imm b → ¬ ok b
  oknew : ∀ b, w0.heap.size ≤ b → ok b
  /-- what stands for the arguments that are written through, and their values -/
  gs : List TV
  gv : List Value
  gin : innOkl (fun _ => False) gs

/-- What may not be written is as it was. -/
structure Fr (c : Cx) (w : World) : Prop where
  os : w.os = c.w0.os
  tape : w.tape = c.w0.tape
  output : w.output = c.w0.output
  size : c.w0.heap.size ≤ w.heap.size
  block : ∀ k, k < c.w0.heap.size → ¬ c.ok k → w.heap[k]? = c.w0.heap[k]?
  row : ∀ b m, Row c.w0 b m → Row w b m

structure Sim (c : Cx) (σ : St) (a : Act) (w : World) : Prop where
  fr : Fr c w
  defers : a.defers = []
  size : a.tmps.size = c.m.n ∧ ∀ q ∈ c.m.st, a.tmps.getD q.1 undef = c.gv.getD q.2 undef
  ex : ∃ μ, HR w c.imm c.ok μ σ.h σ.n [] ∧ (∀ t, VR w c.imm c.ok μ σ.h σ.n (sget σ.s t) (a.tmps.getD t undef)) ∧ VRl w c.imm c.ok μ σ.h σ.n c.gs c.gv

theorem Sim.lt {c : Cx} {σ : St} {a : Act} {w : World} (hs : Sim c σ a w) : ∀ b, c.imm b → b < w.heap.size :=
  fun b hb => Nat.lt_of_lt_of_le (c.immlt b hb) hs.fr.size
theorem Sim.new {c : Cx} {σ : St} {a : Act} {w : World} (hs : Sim c σ a w) : ∀ b, w.heap.size ≤ b → c.ok b :=
  fun b hb => c.oknew b (Nat.le_trans hs.fr.size hb)
theorem Fr.below {c : Cx} {w w' : World} (h : Fr c w) (hb : Below w.heap.size w w') : Fr c w' :=
  ⟨hb.os.trans h.os, hb.tape.trans h.tape, hb.output.trans h.output, Nat.le_trans h.size hb.size, fun k hk ho => (hb.block k (Nat.lt_of_lt_of_le hk h.size)).trans (h.block k hk ho), fun b m hr => (h.row b m hr).same (hb.block b (h.row b m hr).lt)⟩

/-- What an operand holds. -/
def ev (s : List (Nat × TV)) : Operand → TV
  | .tmp t => sget s t
  | .const v => .p v
  | .global g => .p (.pointer (some ⟨g, 0, none⟩))
  | .func f => .fn (.func f) [] []

/-! What the types tell. -/
def tz (P : Program) (t : TypeId) : Option (List Value) := (P.info? t).bind fun i => i.zero.map fun z => z.cells.toList
/-- struct or array; the number of cells -/
def tv (P : Program) (t : TypeId) : Option (Bool × Nat) :=
  (P.underlying t).bind fun d => (P.info? t).map fun i => ((match d with | .struct _ | .array _ _ => true | _ => false), i.size)
/-- the element of a slice type: its cells, its bytes, its zero -/
def tsl (P : Program) (t : TypeId) : Option (Nat × Nat × List Value) :=
  match P.underlying t with
  | some (.slice e) => (P.info? e).bind fun i => i.zero.bind fun z => if z.cells.size = i.size ∧ i.size ≠ 0 ∧ i.bytes ≠ 0 ∧ z.cells.toList.all Value.oneCell' then some (i.size, i.bytes, z.cells.toList) else none
  | _ => none
def tfld (P : Program) (t : TypeId) (f : Nat) : Option Nat :=
  match P.underlying t with
  | some (.struct fs) => (fs[f]?).bind fun d => (P.info? d.type).bind fun i => if i.size = 0 then none else some d.offset
  | _ => none
/-- the kind of a type's data -/
def tyOf (P : Program) : Nat → TypeId → Option Ty
  | 0, _ => none
  | k + 1, t =>
    match P.underlying t with
    | some .bool => some .bool
    | some (.int i) => some (.int i)
    | some .string => some .str
    | some (.slice e) => (tyOf P k e).map .sl
    | some (.struct fs) => fs.toList.foldr (fun f acc => match tyOf P k f.type, acc with | some a, some b => some (.pr a b) | _, _ => none) (some .un)
    | some (.array n e) => (tyOf P k e).map fun a => (List.replicate n a).foldr .pr .un
    | _ => none
def elOf (P : Program) (t : TypeId) : Option Ty :=
  match P.underlying t with
  | some (.slice e) => tyOf P 12 e
  | _ => none

/-- The cells of a datum, as the shadow holds them. -/
def encT : (t : Ty) → den t → List TV
  | .int k, n => [.p (.int k n)]
  | .bool, b => [.p (.bool b)]
  | .str, s => [.p (.string s)]
  | .un, _ => []
  | .pr a b, x => encT a x.1 ++ encT b x.2
  | .sl t, l => [.tr t l]
  | .ref t, x => [.iptr t [x] 0 0]
  | .cl g t, x => [.fn (.func g) [] (encT t x)]
def cast (t t' : Ty) (l : List (den t)) : Option (List (den t')) :=
  if h : t = t' then some (h ▸ l) else none
/-- A datum out of cells; the cells that are left. -/
def decT : (t : Ty) → List TV → Option (den t × List TV)
  | .int k, cs => match cs with
    | .p (.int k' n) :: r => if k' = k then some ((n : Int), r) else none
    | _ => none
  | .bool, cs => match cs with
    | .p (.bool b) :: r => some (b, r)
    | _ => none
  | .str, cs => match cs with
    | .p (.string s) :: r => some (s, r)
    | _ => none
  | .un, r => some ((), r)
  | .pr a b, r => (decT a r).bind fun p => (decT b p.2).bind fun q => some ((p.1, q.1), q.2)
  | .sl t, cs => match cs with
    | .tr t' l :: r => (cast t' t l).bind fun l => some (l, r)
    | .p (.slice none 0 0) :: r => some ([], r)
    | _ => none
  | .ref t, cs => match cs with
    | .iptr t' [y] 0 0 :: r => (cast t' t [y]).bind fun l => some (l.headD (dflt t), r)
    | _ => none
  | .cl g t, cs => match cs with
    | .fn (.func g') [] ca :: r => bif Nat.beq g' g then (match decT t ca with | some (x, []) => some (x, r) | _ => none) else none
    | _ => none
def dec1 (t : Ty) (cs : List TV) : Option (den t) :=
  match decT t cs with
  | some (x, []) => some x
  | _ => none

/-- struct-like: its value is written out cell by cell -/
def isAg : Ty → Bool
  | .pr _ _ | .un => true
  | _ => false
def valT (t : Ty) (x : den t) : TV :=
  bif isAg t then .agg (encT t x) else (encT t x).headD .undef

/-! Cells of values. -/
def clist : TV → List TV
  | .agg cs => cs
  | x => [x]
/-- may lie in one cell -/
def okc : TV → Bool
  | .p v => v.oneCell'
  | .agg _ | .tup _ | .undef | .mp _ => false
  | _ => true
/-- Put cells in the place of others. -/
def spl (e : List TV) (off : Nat) (cs : List TV) : List TV := e.take off ++ cs ++ e.drop (off + cs.length)

/-- A cell's value taken out of the heap: a reference becomes a tree; is nothing in it borrowed? -/
def absC (h : Heap) : TV → Option (TV × Bool × Heap)
  | .p v => some (.p v, true, h)
  | .tr t l => some (.tr t l, false, h)
  | .full r =>
    match hget h r with
    | some (.row fr t l) => some (.tr t l, fr, hdel h r)
    | _ => none
  | .sub r off len =>
    match hget h r with
    | some (.row fr t l) => some (.tr t ((l.drop off).take len), fr, hdel h r)
    | _ => none
  | _ => none
def absL (h : Heap) : List TV → Option (List TV × Bool × Heap)
  | [] => some ([], true, h)
  | c :: cs => (absC h c).bind fun q => (absL q.2.2 cs).bind fun z => some (q.1 :: z.1, q.2.1 && z.2.1, z.2.2)
/-- What is seen of a value while nothing is written: its tree. -/
def frzC (h : Heap) : TV → Option TV
  | .p v => some (.p v)
  | .tr t l => some (.tr t l)
  | .full r =>
    match hget h r with
    | some (.row _ t l) => some (.tr t l)
    | _ => none
  | .sub r off len =>
    match hget h r with
    | some (.row _ t l) => some (.tr t ((l.drop off).take len))
    | _ => none
  | .inn r i off =>
    match hget h r with
    | some (.row _ t l) => (match ((encT t (l.getD i (dflt t))).drop off).headD .undef with | .tr t' l' => some (.tr t' l') | _ => none)
    | _ => none
  | _ => none
def frzL (h : Heap) : List TV → Option (List TV)
  | [] => some []
  | c :: cs => (frzC h c).bind fun x => (frzL h cs).bind fun z => some (x :: z)

/-! What a write into a region's elements makes void. -/
mutual
def kill (r : Nat) : TV → TV
  | .inn r' i off => bif Nat.beq r' r then .undef else .inn r' i off
  | .agg cs => .agg (killL r cs)
  | .tup cs => .tup (killL r cs)
  | .ifc t x => .ifc t (kill r x)
  | .fn f fi ca => .fn f (killL r fi) (killL r ca)
  | x => x
def killL (r : Nat) : List TV → List TV
  | [] => []
  | c :: cs => kill r c :: killL r cs
end
def killS (r : Nat) : List (Nat × TV) → List (Nat × TV)
  | [] => []
  | (k, x) :: s => (k, kill r x) :: killS r s
def killH (r : Nat) : Heap → Heap
  | [] => []
  | (k, .box cs) :: h => (k, .box (killL r cs)) :: killH r h
  | (k, x) :: h => (k, x) :: killH r h

structure Ans where
  v : TV
  h : Heap
  n : Nat
  /-- what holds, or else nothing is said -/
  c : Bool
  /-- a region whose inner slices are no longer known -/
  k : Option Nat := none

/-- inner slices of a region's element -/
def innL (r i : Nat) : Nat → List TV → List TV
  | _, [] => []
  | off, .tr _ _ :: cs => .inn r i off :: innL r i (off + 1) cs
  | off, .iptr _ _ _ _ :: cs => .undef :: innL r i (off + 1) cs
  | off, .fn _ _ _ :: cs => .undef :: innL r i (off + 1) cs
  | off, c :: cs => c :: innL r i (off + 1) cs

def pack (g : Bool) (cs : List TV) : TV := bif g then .agg cs else cs.headD .undef

def loadS (av : Bool × Nat) (x : TV) (h : Heap) (n : Nat) : Option Ans :=
  bif av.1 || Nat.beq av.2 1 then
    match x with
    | .iptr t l i off =>
      bif Nat.ble (off + av.2) (sz t) then
        some { v := pack av.1 (((encT t (l.getD i (dflt t))).drop off).take av.2), h, n, c := decide (i < l.length) }
      else none
    | .ptr r i off =>
      match hget h r with
      | some (.row _ t l) =>
        bif Nat.ble (off + av.2) (sz t) then
          some { v := pack av.1 (innL r i off (((encT t (l.getD i (dflt t))).drop off).take av.2)), h, n, c := decide (i < l.length) }
        else none
      | some (.box cs) => bif Nat.ble (off + av.2) cs.length then some { v := pack av.1 ((cs.drop off).take av.2), h, n, c := true } else none
      | _ => none
    | _ => none
  else none

def storeS (av : Bool × Nat) (x y : TV) (h : Heap) (n : Nat) : Option Ans :=
  match x with
  | .ptr r i off =>
    match hget h r with
    | some (.box cs) =>
      bif Nat.beq (clist y).length av.2 && Nat.ble (off + av.2) cs.length && (clist y).all okc then
        some { v := .undef, h := hset h r (.box (spl cs off (clist y))), n, c := true }
      else none
    | some (.row _ _ _) =>
      (absL h (clist y)).bind fun q =>
        match hget q.2.2 r with
        | some (.row fr t l) =>
          bif Nat.beq q.1.length av.2 && Nat.ble (off + av.2) (sz t) && (clist y).all okc then
            (dec1 t (spl (encT t (l.getD i (dflt t))) off q.1)).bind fun e =>
              some { v := .undef, h := bif hasSl t then killH r (hset q.2.2 r (.row (fr && q.2.1) t (l.set i e))) else hset q.2.2 r (.row (fr && q.2.1) t (l.set i e)), n, c := decide (i < l.length), k := bif hasSl t then some r else none }
          else none
        | _ => none
    | _ => none
  | _ => none

/-- Are two values of one type alike? (whole numbers, truth values, strings, structs of these) -/
def eq1 (P : Program) : Nat → TypeId → List TV → List TV → Option Bool
  | 0, _, _, _ => none
  | d + 1, t, xs, ys =>
    match P.underlying t with
    | some (.struct fs) =>
      bif P.stoodInHeld t then none else
      fs.toList.foldr (fun f acc => (tv P f.type).bind fun av =>
        bif f.name == "_" || !Nat.ble (f.offset + av.2) xs.length || !Nat.ble (f.offset + av.2) ys.length || !(av.1 || Nat.beq av.2 1) then none else
        (eq1 P d f.type ((xs.drop f.offset).take av.2) ((ys.drop f.offset).take av.2)).bind fun r => acc.map fun s => r && s) (some true)
    | some (.int _) => match xs, ys with
      | [.p (.int k a)], [.p (.int k' b)] => if k' = k then some (decide (a = b)) else none
      | _, _ => none
    | some .bool => match xs, ys with
      | [.p (.bool a)], [.p (.bool b)] => some (a == b)
      | _, _ => none
    | some .string => match xs, ys with
      | [.p (.string a)], [.p (.string b)] => some (decide (a.data.toList = b.data.toList))
      | _, _ => none
    | _ => none

def bin (op : BinOp) (k : IntKind) (x y : Int) : TV :=
  match op with
  | .add => .p (.int k (k.wrap (x + y)))
  | .sub => .p (.int k (k.wrap (x - y)))
  | .mul => .p (.int k (k.wrap (x * y)))
  | .quo => .p (.int k (k.wrap (x.tdiv y)))
  | .rem => .p (.int k (x.tmod y))
  | .and => .p (.int k (k.wrap (BitVec.ofInt k.bits x &&& BitVec.ofInt k.bits y).toNat))
  | .or => .p (.int k (k.wrap (BitVec.ofInt k.bits x ||| BitVec.ofInt k.bits y).toNat))
  | .xor => .p (.int k (k.wrap (BitVec.ofInt k.bits x ^^^ BitVec.ofInt k.bits y).toNat))
  | .andNot => .p (.int k (k.wrap (BitVec.ofInt k.bits x &&& ~~~BitVec.ofInt k.bits y).toNat))
  | .eql => .p (.bool (decide (x = y)))
  | .neq => .p (.bool (!decide (x = y)))
  | .lss => .p (.bool (decide (x < y)))
  | .leq => .p (.bool (decide (x ≤ y)))
  | .gtr => .p (.bool (decide (y < x)))
  | .geq => .p (.bool (decide (y ≤ x)))
  | _ => .undef
def strB (op : BinOp) (x y : ByteArray) : TV :=
  match op with
  | .add => .p (.string (x ++ y))
  | .eql => .p (.bool (decide (x.data.toList = y.data.toList)))
  | .neq => .p (.bool (!decide (x.data.toList = y.data.toList)))
  | .lss => .p (.bool (Op.bytesLess x.data.toList y.data.toList))
  | .leq => .p (.bool (Op.bytesLess x.data.toList y.data.toList || decide (x.data.toList = y.data.toList)))
  | .gtr => .p (.bool !(Op.bytesLess x.data.toList y.data.toList || decide (x.data.toList = y.data.toList)))
  | .geq => .p (.bool (!Op.bytesLess x.data.toList y.data.toList))
  | _ => .undef

def isNil (t : Option TypeDesc) (x y : TV) : Option Bool :=
  match t, x, y with
  | some .bool, .p (.bool a), .p (.bool b) => some (a == b)
  | some (.pointer _), .ptr _ _ _, .p (.pointer none) => some false
  | some (.pointer _), .p (.pointer none), .p (.pointer none) => some true
  | some (.interface _), .ifc _ _, .p .nilIface => some false
  | some (.interface _), .p .nilIface, .ifc _ _ => some false
  | some (.slice _), .tr _ _, .p (.slice none 0 0) => some false
  | some (.slice _), .p (.slice b 0 _), .p (.slice none 0 0) => some b.isNone
  | _, _, _ => none

/-- where that answer holds: a borrowed slice with elements is not nil -/
def nilC : TV → Bool
  | .tr _ l => !l.isEmpty
  | _ => true

def binS (P : Program) (op : BinOp) (t : TypeId) (x y : TV) (h : Heap) (n : Nat) : Option Ans :=
  match x, y with
  | .p (.int k a), .p (.int k' b) =>
    match op with
    | .shl => some { v := .p (.int k (k.wrap (a * 2 ^ min b.toNat k.bits))), h, n, c := decide (0 ≤ b) }
    | .shr => some { v := .p (.int k (a.fdiv (2 ^ min b.toNat k.bits))), h, n, c := decide (0 ≤ b) }
    | .quo | .rem => if k' = k then some { v := bin op k a b, h, n, c := !decide (b = 0) } else none
    | _ => if k' = k then some { v := bin op k a b, h, n, c := true } else none
  | .p (.string a), .p (.string b) =>
    match op with
    | .add => some { v := strB op a b, h, n, c := decide ((a.size + b.size : Nat) ≤ 1099511627776) }
    | .eql | .neq | .lss | .leq | .gtr | .geq => some { v := strB op a b, h, n, c := true }
    | _ => none
  | .agg xs, .agg ys =>
    bif P.eqGuardType P.depth t then none else
    match tv P t with
    | some (true, _) => (match op with
      | .eql => (eq1 P 8 t xs ys).map fun b => { v := .p (.bool b), h, n, c := true }
      | .neq => (eq1 P 8 t xs ys).map fun b => { v := .p (.bool !b), h, n, c := true }
      | _ => none)
    | _ => none
  | x, y =>
    match op, isNil (P.underlying t) x y with
    | .eql, some b => some { v := .p (.bool b), h, n, c := nilC x }
    | .neq, some b => some { v := .p (.bool !b), h, n, c := nilC x }
    | _, _ => none

def lenS (d : TypeDesc) (x : TV) (h : Heap) : Option Nat :=
  match d, x with
  | .string, .p (.string s) => some s.size
  | .slice _, x => match frzC h x with
    | some (.p (.slice none 0 0)) => some 0
    | some (.tr _ l) => some l.length
    | _ => none
  | .map _ _, .mp r => match hget h r with
    | some (.mp _ l) => some l.length
    | _ => none
  | _, _ => none

def indexAddrS (P : Program) (t : TypeId) (x i : TV) (h : Heap) (n : Nat) : Option Ans :=
  match tsl P t, i with
  | some (size, _, _), .p (.int _ j) =>
    match x with
    | .tr t l => bif Nat.beq (sz t) size then some { v := .iptr t l j.toNat 0, h, n, c := decide (0 ≤ j) && decide (j < l.length) } else none
    | .full r => match hget h r with
      | some (.row _ t l) => bif Nat.beq (sz t) size then some { v := .ptr r j.toNat 0, h, n, c := decide (0 ≤ j) && decide (j < l.length) } else none
      | _ => none
    | .sub r off len => match hget h r with
      | some (.row _ t l) => bif Nat.beq (sz t) size then some { v := .ptr r (off + j.toNat) 0, h, n, c := decide (0 ≤ j) && decide (j < len) } else none
      | _ => none
    | _ => none
  | _, _ => none

/-- bounds of a slice expression -/
def bLo : Option TV → Option Int
  | some (.p (.int _ n)) => some n
  | some _ => none
  | none => some 0
def bHi : Option TV → Int → Option Int
  | some (.p (.int _ n)), _ => some n
  | some _, _ => none
  | none, d => some d

def sliceS (P : Program) (t : TypeId) (x : TV) (lo hi mx : Option TV) (h : Heap) (n : Nat) : Option Ans :=
  match mx, x, bLo lo with
  | none, .p (.string s), some l =>
    (bHi hi s.size).bind fun u => match P.underlying t with
      | some .string => some { v := .p (.string (s.extract l.toNat u.toNat)), h, n, c := decide (0 ≤ l) && decide (l ≤ u) && decide (u ≤ s.size) }
      | _ => none
  | none, .tr t0 es, some l =>
    (bHi hi es.length).bind fun u => match tsl P t with
      | some q => bif Nat.beq q.1 (sz t0) then some { v := .tr t0 ((es.drop l.toNat).take (u.toNat - l.toNat)), h, n, c := decide (0 ≤ l) && decide (l ≤ u) && decide (u ≤ es.length) } else none
      | _ => none
  | none, .full r, some l =>
    match hget h r with
    | some (.row _ t0 es) =>
      (bHi hi es.length).bind fun u => match tsl P t with
        | some q => bif Nat.beq q.1 (sz t0) then some { v := .sub r l.toNat (u.toNat - l.toNat), h, n, c := decide (0 ≤ l) && decide (l ≤ u) && decide (u ≤ es.length) } else none
        | _ => none
    | _ => none
  | none, .sub r off len, some l =>
    match hget h r with
    | some (.row _ t0 es) =>
      (bHi hi len).bind fun u => match tsl P t with
        | some q => bif Nat.beq q.1 (sz t0) then some { v := .sub r (off + l.toNat) (u.toNat - l.toNat), h, n, c := decide (0 ≤ l) && decide (l ≤ u) && decide (u ≤ len) } else none
        | _ => none
    | _ => none
  | none, .p (.slice none 0 0), some l =>
    (bHi hi 0).bind fun u => match tsl P t with
      | some _ => some { v := .p (.slice none 0 0), h, n, c := decide (l = 0) && decide (u = 0) }
      | _ => none
  | _, _, _ => none


def makeS (P : Program) (t : TypeId) (l c : TV) (h : Heap) (n : Nat) : Option Ans :=
  match tsl P t, elOf P t, l, c with
  | some (size, bytes, z), some e, .p (.int _ a), .p (.int _ b) =>
    (dec1 e (z.map .p)).bind fun d => bif Nat.beq (sz e) size then
      some { v := .full n, h := (n, .row true e (List.replicate a.toNat d)) :: h, n := n + 1, c := decide (0 ≤ a) && decide (a ≤ b) && decide ((bytes : Int) * b ≤ 1099511627776) }
    else none
  | _, _, _, _ => none

/-- Where the parts of a struct or an array lie. -/
def plc (P : Program) (t : TypeId) : Option (List (Nat × Nat)) :=
  match P.underlying t with
  | some (.struct fs) => fs.toList.mapM fun f => (P.info? f.type).map fun i => (f.offset, i.size)
  | some (.array n e) => (P.info? e).map fun k => (List.range n).map fun i => (i * k.size, k.size)
  | _ => none
/-- Fill places with parts. -/
def fillS (pl : List (Nat × Nat)) (ρ : Operand → TV) : List TV → List (Nat × Operand) → Option (List TV)
  | z, [] => some z
  | z, (i, x) :: rest =>
    match pl[i]? with
    | none => none
    | some (off, size) => bif Nat.beq (clist (ρ x)).length size && Nat.ble (off + size) z.length && (clist (ρ x)).all okc then fillS pl ρ (spl z off (clist (ρ x))) rest else none
/-- The elements of a slice that is written out; what they refer to is taken out of the heap. -/
def fillE (e : Ty) (ρ : Operand → TV) : Heap → Bool → List (den e) → List (Nat × Operand) → Option (Heap × Bool × List (den e))
  | h, f, es, [] => some (h, f, es)
  | h, f, es, (i, x) :: rest =>
    (absL h (clist (ρ x))).bind fun q => (dec1 e q.1).bind fun y => bif Nat.blt i es.length && (clist (ρ x)).all okc then fillE e ρ q.2.2 (f && q.2.1) (es.set i y) rest else none

/-- What is appended: the elements, the heap without them. -/
def elemsS (t : Ty) (x : TV) (h : Heap) : Option (List (den t) × Bool × Heap) :=
  match x with
  | .p (.slice none 0 0) => some ([], true, h)
  | .p (.slice (some _) 0 _) => some ([], true, h)
  | .tr t' l => (cast t' t l).map fun l => (l, !hasSl t, h)
  | .full r => match hget h r with | some (.row fr t' l) => (cast t' t l).map fun l => (l, fr, bif hasSl t then hdel h r else h) | _ => none
  | .sub r off len => match hget h r with | some (.row fr t' l) => (cast t' t l).map fun l => ((l.drop off).take len, fr, bif hasSl t then hdel h r else h) | _ => none
  | .p (.string s) => match t with
    | .int .u8 => some (s.data.toList.map fun b => (b.toNat : Int), true, h)
    | _ => none
  | _ => none

def appendS (P : Program) (t : TypeId) (s x : TV) (h : Heap) (n : Nat) : Option Ans :=
  match tsl P t, elOf P t with
  | some (size, bytes, _), some e =>
    bif Nat.beq (sz e) size then
      (elemsS e x h).bind fun q =>
        match s with
        | .p (.slice none 0 0) => some { v := .full n, h := (n, .row q.2.1 e q.1) :: q.2.2, n := n + 1, c := decide (q.1.length * bytes ≤ 1099511627776) }
        | .full r =>
          match hget q.2.2 r with
          | some (.row fr t' l) => (cast t' e l).bind fun l => some { v := .full n, h := (n, .row (fr && q.2.1) e (l ++ q.1)) :: hdel q.2.2 r, n := n + 1, c := decide ((l.length + q.1.length) * bytes ≤ 1099511627776) }
          | _ => none
        | .sub r off len =>
          match hget q.2.2 r with
          | some (.row fr t' l) => (cast t' e l).bind fun l => some { v := .full n, h := (n, .row (fr && q.2.1) e ((l.drop off).take len ++ q.1)) :: hdel q.2.2 r, n := n + 1, c := decide ((len + q.1.length) * bytes ≤ 1099511627776) }
          | _ => none
        | _ => none
    else none
  | _, _ => none

/-- A field of a value. -/
def fieldS (P : Program) (t : TypeId) (f : Nat) (x : TV) : Option TV :=
  match P.underlying t with
  | some (.struct fs) => (fs[f]?).bind fun d => (tv P d.type).bind fun av => match x with
    | .agg cs => bif (av.1 || Nat.beq av.2 1) && Nat.ble (d.offset + av.2) cs.length then some (pack av.1 ((cs.drop d.offset).take av.2)) else none
    | _ => none
  | _ => none
def imax (a b : Int) : Int := if a < b then b else a
def imin (a b : Int) : Int := if b < a then b else a
def mmS (g : Int → Int → Int) : TV → List TV → Option TV
  | x, [] => some x
  | .p (.int k a), .p (.int _ b) :: xs => mmS g (.p (.int k (g a b))) xs
  | _, _ :: _ => none
/-- append of so many zero values to nothing -/
def appendZ (P : Program) (t : TypeId) (s x : TV) (h : Heap) (n : Nat) : Option Ans :=
  match tsl P t, elOf P t, s, x with
  | some (size, bytes, z), some e, .p (.slice none 0 0), .p (.int _ a) =>
    (dec1 e (z.map .p)).bind fun d => bif Nat.beq (sz e) size then
      some { v := .full n, h := (n, .row true e (List.replicate a.toNat d)) :: h, n := n + 1, c := decide (0 ≤ a) && decide ((bytes : Int) * a ≤ 1099511627776) }
    else none
  | _, _, _, _ => none

/-! maps from integers to bools -/
def mget : List (Int × Bool) → Int → Bool
  | [], _ => false
  | p :: l, a => bif decide (a = p.1) then p.2 else mget l a
def mset : List (Int × Bool) → Int → Bool → List (Int × Bool)
  | [], a, b => [(a, b)]
  | p :: l, a, b => bif decide (a = p.1) then (a, b) :: l else p :: mset l a b
/-- the kind of the keys -/
def mpT (P : Program) (t : TypeId) : Option IntKind :=
  match P.underlying t with
  | some (.map kt et) => (match P.underlying kt, P.underlying et, (P.info? et).bind (·.zero) with
    | some (.int k), some .bool, some (.bool false) => some k
    | _, _, _ => none)
  | _ => none
def lookupS (P : Program) (t : TypeId) (x y : TV) (h : Heap) (n : Nat) : Option Ans :=
  match mpT P t, x, y with
  | some k, .mp r, .p (.int k' a) => (match hget h r with
    | some (.mp k2 l) => if k' = k ∧ k2 = k then some { v := .p (.bool (mget l a)), h, n, c := true } else none
    | _ => none)
  | _, _, _ => none
def mapSetS (P : Program) (t : TypeId) (x y z : TV) (h : Heap) (n : Nat) : Option Ans :=
  match mpT P t, x, y, z with
  | some k, .mp r, .p (.int k' a), .p (.bool b) => (match hget h r with
    | some (.mp k2 l) => if k' = k ∧ k2 = k then some { v := .undef, h := hset h r (.mp k (mset l a b)), n, c := true } else none
    | _ => none)
  | _, _, _, _ => none

def isInt : TV → Bool
  | .p (.int _ _) => true
  | _ => false
/-- The operation's answer. -/
def ex (P : Program) (op : Op) (ρ : Operand → TV) (h : Heap) (n : Nat) : Option Ans :=
  match op with
  | .move x | .assign x => some { v := ρ x, h, n, c := true }
  | .pick k x y => match ρ k with
    | .p (.bool true) => some { v := ρ x, h, n, c := true }
    | .p (.bool false) => some { v := ρ y, h, n, c := true }
    | _ => none
  | .alloc t => (tz P t).bind fun z => bif z.all Value.oneCell' then some { v := .ptr n 0 0, h := (n, .box (z.map .p)) :: h, n := n + 1, c := true } else none
  | .box _ x => bif (clist (ρ x)).all okc then some { v := .ptr n 0 0, h := (n, .box (clist (ρ x))) :: h, n := n + 1, c := true } else none
  | .build t parts => (tz P t).bind fun z => (plc P t).bind fun pl => (fillS pl ρ (z.map .p) parts.toList).map fun cs => { v := .agg cs, h, n, c := true }
  | .buildSlice t len parts => match tsl P t, elOf P t with
    | some (size, _, z), some e => bif Nat.beq (sz e) size && Nat.ble (len * size) 16777216 then
        (dec1 e (z.map .p)).bind fun d => (fillE e ρ h true (List.replicate len d) parts.toList).map fun q => { v := .full n, h := (n, .row q.2.1 e q.2.2) :: q.1, n := n + 1, c := true }
      else none
    | _, _ => none
  | .load t x => (tv P t).bind fun av => loadS av (ρ x) h n
  | .store t x y => (tv P t).bind fun av => storeS av (ρ x) (ρ y) h n
  | .nilCheck x => match ρ x with | .ptr r i off => some { v := .ptr r i off, h, n, c := true } | .iptr t l i off => some { v := .iptr t l i off, h, n, c := true } | _ => none
  | .binOp op t x y _ => binS P op t (ρ x) (ρ y) h n
  | .unOp op _ x => match op, ρ x with
    | .not, .p (.bool b) => some { v := .p (.bool !b), h, n, c := true }
    | .neg, .p (.int k m) => some { v := .p (.int k (k.wrap (0 - m))), h, n, c := true }
    | _, _ => none
  | .convert s d x => match P.underlying s, P.underlying d, ρ x with
    | some (.int _), some (.int k), .p (.int _ m) => some { v := .p (.int k (k.wrap m)), h, n, c := true }
    | some .string, some .string, .p (.string b) => some { v := .p (.string b), h, n, c := true }
    | _, _, _ => none
  | .makeInterface t x => match P.underlying t with | some (.interface _) | none => none | _ => some { v := .ifc t (ρ x), h, n, c := true }
  | .makeFunc fn first cap => some { v := .fn fn (first.toList.map ρ) (cap.toList.map ρ), h, n, c := true }
  | .makeSlice t l c => makeS P t (ρ l) (ρ c) h n
  | .slice t x lo hi mx => sliceS P t (ρ x) (lo.map ρ) (hi.map ρ) (mx.map ρ) h n
  | .fieldAddr s x f => match tfld P s f, ρ x with
    | some fo, .ptr r i off => some { v := .ptr r i (off + fo), h, n, c := true }
    | some fo, .iptr t l i off => some { v := .iptr t l i (off + fo), h, n, c := true }
    | _, _ => none
  | .indexAddr t x i => indexAddrS P t (ρ x) (ρ i) h n
  | .index t x i => match P.underlying t, ρ x, ρ i with
    | some .string, .p (.string s), .p (.int _ j) => some { v := .p (.int .u8 (s.data.toList.getD j.toNat 0).toNat), h, n, c := decide (0 ≤ j) && decide (j < s.size) }
    | _, _, _ => none
  | .extract x i => match ρ x with
    | .tup vs => bif Nat.blt i vs.length then some { v := vs.getD i .undef, h, n, c := true } else none
    | _ => none
  | .call c => match c.callee with
    | .builtin .len => match c.args.toList, (c.argTypes[0]?).bind P.underlying with
      | [x], some d => (lenS d (ρ x) h).map fun (m : Nat) => { v := .p (.int .i64 (m : Int)), h, n, c := true }
      | _, _ => none
    | .builtin .append => match c.args.toList, c.argTypes.toList with
      | [s, x], t :: t2 :: _ => (match P.underlying t2 with
        | some (.slice _) => appendS P t (ρ s) (ρ x) h n
        | some .string => appendS P t (ρ s) (ρ x) h n
        | some (.int _) => appendZ P t (ρ s) (ρ x) h n
        | _ => none)
      | _, _ => none
    | .builtin .max => match c.args.toList with
      | x :: xs => bif isInt (ρ x) then (mmS imax (ρ x) (xs.map ρ)).map fun v => { v, h, n, c := true } else none
      | _ => none
    | .builtin .min => match c.args.toList with
      | x :: xs => bif isInt (ρ x) then (mmS imin (ρ x) (xs.map ρ)).map fun v => { v, h, n, c := true } else none
      | _ => none
    | .builtin .cap => match c.args.toList, (c.argTypes[0]?).bind P.underlying with
      | [x], some (.slice _) => (match ρ x with
        | .p (.slice none 0 0) => some { v := .p (.int .i64 0), h, n, c := true }
        | _ => none)
      | _, _ => none
    | _ => none
  | .field t x f => (fieldS P t f (ρ x)).map fun v => { v, h, n, c := true }
  | .makeMap t r => (mpT P t).bind fun k => bif r.isNone then some { v := .mp n, h := (n, .mp k []) :: h, n := n + 1, c := true } else none
  | .lookup t x y ok => bif ok then none else lookupS P t (ρ x) (ρ y) h n
  | .mapUpdate t x y z => mapSetS P t (ρ x) (ρ y) (ρ z) h n
  | _ => none
end Go.Tw
